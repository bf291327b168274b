/- FnParts: whatever the code is, the law returns true and leaves it as it was. No condition. -/
import Derived.Test.YtgcloaimolajjaaDoorDrawQ
import Derived.Test.YtgcloaimolajjaaDoorFnH
namespace Go.Proofs.YtgcloaimolajjaaDoor
open Go.ChangeShapes Go.WideShapes Go.ChangeAt Go.RowKit Go.Deep Go.Joins
set_option linter.all false
theorem pr_fact1 {st : Int} {L : List Lg} (h : svB st L = true) {P : List Int} (hP : prL st L = P) : ∀ k (hk : k < L.length), ∃ (i j : Nat) (x : Int), L[k].f = (i : Int) ∧ L[k].t = (j : Int) ∧ i < P.length ∧ j < P.length ∧ P[i]? = some x ∧ P[j]? = some x := fun k hk => by
  subst hP
  obtain ⟨⟨a0, a1⟩, b0, b1⟩ := leg_in h hk
  have hl := pr_len h
  have h1 := pr_at h a0 a1
  have h2 := pr_at h b0 b1
  rw [← pr_leg h hk] at h2
  exact ⟨L[k].f.toNat, L[k].t.toNat, _, by omega, by omega, by omega, by omega, h1, h2⟩
theorem pr_fact2 {st : Int} {L : List Lg} (h : svB st L = true) {P : List Int} (hP : prL st L = P) : ∀ k, k < P.length → ∃ r : Nat, P[k]? = some (r : Int) ∧ r ≤ k ∧ r < P.length ∧ P[r]? = some (r : Int) := fun k hk => by
  subst hP
  have hl := pr_len h
  obtain ⟨⟨c0, c1⟩, c2, c3⟩ := pr_idem h (v := (k : Int)) (by omega) (by omega)
  have h1 := pr_at h (v := (k : Int)) (by omega) (by omega)
  have h2 := pr_at h c0 c1
  rw [c2] at h2
  obtain ⟨r, hr⟩ := Int.eq_ofNat_of_zero_le c0
  rw [hr] at h1 h2 c3 c1
  simp only [Int.toNat_natCast] at h1 h2
  exact ⟨r, h1, by omega, by omega, h2⟩
set_option maxHeartbeats 4000000 in
set_option maxRecDepth 100000 in
theorem lawFnParts_walk (A : Option Addr) (n cap : Nat) (w : World) (hB : Bytes w A n) (hc : n ≤ cap) (hn : n ≤ maxLen) (ht : Tab w) :
    Calls Tryd.prog 4 #[.slice A n cap] w fun r w' => r = .returned (.bool true) ∧ New w w' := by
  by_cases hbig : (1048576 : Int) < (n : Int)
  · go_enter Tryd.func4, Tryd.ntmps4
    go_wp2_with fail
    go_ret
    exact ⟨rfl, New.refl _⟩
  have HT := Lib.hid ht
  clear ht
  go_enter Tryd.func4, Tryd.ntmps4
  go_wp2_with fail
  refine (drawParts_any A n cap _ hB hc hn).mono ?_
  rintro _ w1 ⟨st, B, L, cp, rfl, ⟨hcp, s0, s1, hlen, hsm⟩, hL, hn1⟩
  clear hsm hB hc hn
  go_upto_region 4 with fail
  have h3 := Has.new w1 #[.int .i64 st, .slice B L.length cp] 25
  have hk : New w (w1.alloc (.cells #[.int .i64 st, .slice B L.length cp] 25)) := (by repeat (first | with_reducible exact New.refl _ | with_reducible assumption | with_reducible refine New.alloc ?_ _ | with_reducible refine New.drewN ?_ _ | with_reducible refine New.drew ?_ | with_reducible refine New.setCell ?_ (by first | omega | (simp; done) | (simp; omega)) _ | with_reducible refine New.tail (by assumption) ?_))
  have hL3 := hL.keep ((New.refl w1).alloc (.cells #[.int .i64 st, .slice B L.length cp] 25))
  generalize (w1.alloc (.cells #[.int .i64 st, .slice B L.length cp] 25)) = W1 at *
  have c3 := h3.cells2
  clear hL hn1
  have H3 : ∀ w', New W1 w' → Calls Tryd.prog 18 #[] w' fun r w'' => r = .returned (.bool true) ∧ New w' w'' := fun w' hn => alive_any w' (HT.out.keep (hk.trans hn))
  have H1 : ∀ w', New W1 w' → Calls Tryd.prog 20 #[.agg #[.int .i64 st, .slice B L.length cp]] w' fun r w'' => ∃ C c, r = .returned (.slice C (prL st L).length c) ∧ FInts w' w'' C (prL st L) ∧ New w' w'' := fun w' hn => implParts_any st B cp L w' (hL3.keep hn) (by omega)
  have H2 : ∀ w', New W1 w' → Calls Tryd.prog 22 #[.agg #[.int .i64 st, .slice B L.length cp]] w' fun r w'' => ∃ C c, r = .returned (.slice C (prL st L).length c) ∧ FInts w' w'' C (prL st L) ∧ New w' w'' := fun w' hn => specParts_any st B cp L w' (hL3.keep hn) (by omega)
  have H4 : ∀ w', New W1 w' → Calls Tryd.prog 16 #[.agg #[.int .i64 st, .slice B L.length cp]] w' fun r w'' => r = .returned (.bool (svB st L)) ∧ New w' w'' := fun w' hn => implSurveyValid_any st B cp L w' (hL3.keep hn) (by omega)
  have hPl := prL_le st L
  cases ok : svB st L
  · rw [prL_no ok] at H1 H2
    rw [ok] at H4
    simp only [List.length_nil] at H1 H2
    clear hL3 h3 ok hPl
    go_wp2_with fail
    refine (H1 _ (by repeat (first | with_reducible exact New.refl _ | with_reducible assumption | with_reducible refine New.alloc ?_ _ | with_reducible refine New.drewN ?_ _ | with_reducible refine New.drew ?_ | with_reducible refine New.setCell ?_ (by first | omega | (simp; done) | (simp; omega)) _ | with_reducible refine New.tail (by assumption) ?_))).mono ?_
    rintro _ w2 ⟨C, c, rfl, hF, hn2⟩
    go_wp2_with fail
    refine (H2 _ (by repeat (first | with_reducible exact New.refl _ | with_reducible assumption | with_reducible refine New.alloc ?_ _ | with_reducible refine New.drewN ?_ _ | with_reducible refine New.drew ?_ | with_reducible refine New.setCell ?_ (by first | omega | (simp; done) | (simp; omega)) _ | with_reducible refine New.tail (by assumption) ?_))).mono ?_
    rintro _ w3 ⟨C', c', rfl, hG, hn3⟩
    go_wp2_with fail
    refine (sameInts_same C C' c c' [] _ (hF.reads.keep hn3) hG.reads (by simp)).mono ?_
    rintro _ w4 ⟨rfl, hn4⟩
    have hk3 := (hn2.trans hn3).trans hn4
    clear hn2 hn3 hn4 hF hG
    go_wp2_with fail
    refine (H4 _ (by repeat (first | with_reducible exact New.refl _ | with_reducible assumption | with_reducible refine New.alloc ?_ _ | with_reducible refine New.drewN ?_ _ | with_reducible refine New.drew ?_ | with_reducible refine New.setCell ?_ (by first | omega | (simp; done) | (simp; omega)) _ | with_reducible refine New.tail (by assumption) ?_))).mono ?_
    rintro _ w5 ⟨rfl, hn5⟩
    go_wp2_with fail
    refine (H3 _ (by repeat (first | with_reducible exact New.refl _ | with_reducible assumption | with_reducible refine New.alloc ?_ _ | with_reducible refine New.drewN ?_ _ | with_reducible refine New.drew ?_ | with_reducible refine New.setCell ?_ (by first | omega | (simp; done) | (simp; omega)) _ | with_reducible refine New.tail (by assumption) ?_))).mono ?_
    rintro _ w6 ⟨rfl, hn6⟩
    go_wp2_with fail
    go_ret
    exact ⟨rfl, hk.trans (by repeat (first | with_reducible exact New.refl _ | with_reducible assumption | with_reducible refine New.alloc ?_ _ | with_reducible refine New.drewN ?_ _ | with_reducible refine New.drew ?_ | with_reducible refine New.setCell ?_ (by first | omega | (simp; done) | (simp; omega)) _ | with_reducible refine New.tail (by assumption) ?_))⟩
  · have hlen' := pr_len ok
    have hst1 := (svB_true ok).1
    obtain ⟨P, hP⟩ : ∃ P, prL st L = P := ⟨_, rfl⟩
    have F1 := Lib.hid (pr_fact1 ok hP)
    have F2 := Lib.hid (pr_fact2 ok hP)
    rw [hP] at H1 H2 hlen' hPl
    have hPs : (P.length : Int) = st := hlen'
    have t0 : ((P.length : Int) == 0) = false := beq_eq_false_iff_ne.2 (by omega)
    clear H4 H3 ok hP hlen' h3
    subst hPs
    go_wp2_with fail
    refine (H1 _ (by repeat (first | with_reducible exact New.refl _ | with_reducible assumption | with_reducible refine New.alloc ?_ _ | with_reducible refine New.drewN ?_ _ | with_reducible refine New.drew ?_ | with_reducible refine New.setCell ?_ (by first | omega | (simp; done) | (simp; omega)) _ | with_reducible refine New.tail (by assumption) ?_))).mono ?_
    rintro _ w2 ⟨C, c, rfl, hF, hn2⟩
    go_wp2_with fail
    refine (H2 _ (by repeat (first | with_reducible exact New.refl _ | with_reducible assumption | with_reducible refine New.alloc ?_ _ | with_reducible refine New.drewN ?_ _ | with_reducible refine New.drew ?_ | with_reducible refine New.setCell ?_ (by first | omega | (simp; done) | (simp; omega)) _ | with_reducible refine New.tail (by assumption) ?_))).mono ?_
    rintro _ w3 ⟨C', c', rfl, hG, hn3⟩
    go_wp2_with fail
    refine (sameInts_same C C' c c' P _ (hF.reads.keep hn3) hG.reads (by omega)).mono ?_
    rintro _ w4 ⟨rfl, hn4⟩
    have hk4 : New W1 w4 := (hn2.trans hn3).trans hn4
    have hI := hF.reads.keep (hn3.trans hn4)
    have hL4 := hL3.keep hk4
    have c4 := fun w' (hn : New w4 w') => c3 w' (hk4.trans hn)
    have hkw := hk.trans hk4
    clear hn2 hn3 hn4 hF hG H1 H2 hL3 c3 hk4 hk
    go_wp2_with fail
    go_loopw [5] (fun i wr => ∃ k : Nat, k ≤ L.length ∧ i = .int .i64 k ∧ New w4 wr) (fun i _ => L.length - (intOf i).toNat)
    case atStart => exact ⟨0, Nat.zero_le _, rfl, New.refl _⟩
    case round =>
      obtain ⟨k, hk, rfl, hw⟩ := hrel
      have c5 := fun w' (hn : New wr w') => c4 w' (hw.trans hn)
      clear c4
      by_cases hlt : k < L.length
      · obtain ⟨i, j, x, e1, e2, e3, e4, e5, e6⟩ := F1.out k hlt
        obtain ⟨b, off, f, t, e, n', u, hA, hg, hcl⟩ := (hL4.keep hw).at_ hlt
        obtain ⟨b2, off2, x1, hA2, hx1, hc2⟩ := (hI.keep hw).at_ e3
        obtain ⟨b3, off3, x2, hA3, hx2, hc3⟩ := (hI.keep hw).at_ e4
        rw [List.getElem?_eq_getElem e3, hx1] at e5
        rw [List.getElem?_eq_getElem e4, hx2] at e6
        obtain rfl := Option.some.inj e5
        obtain rfl := Option.some.inj e6
        rw [hg] at e1 e2
        simp only at e1 e2
        subst e1 e2 hA hA2
        simp only [Option.some.injEq, Addr.mk.injEq, and_true] at hA3
        obtain ⟨rfl, rfl⟩ := hA3
        have q1 : (0 : Int) ≤ (k : Int) := by omega
        have q2 : (k : Int) < (L.length : Int) := by omega
        have q3 : (0 : Int) ≤ (i : Int) := by omega
        have q4 : (i : Int) < (P.length : Int) := by omega
        have q5 : (0 : Int) ≤ (j : Int) := by omega
        have q6 : (j : Int) < (P.length : Int) := by omega
        have q7 : (x2 != x2) = false := by simp
        clear hg hx1 hx2 e3 e4 e5 e6 hI hL4
        go_wp2_with fail
        go_quiet (fail)
        go_wp2_with fail
        go_roundw
        case rel => exact ⟨k + 1, by omega, by go_num, hw.trans (by repeat (first | with_reducible exact New.refl _ | with_reducible assumption | with_reducible refine New.alloc ?_ _ | with_reducible refine New.drewN ?_ _ | with_reducible refine New.drew ?_ | with_reducible refine New.setCell ?_ (by first | omega | (simp; done) | (simp; omega)) _ | with_reducible refine New.tail (by assumption) ?_))⟩
        case measure => simp [intOf]; omega
      · obtain rfl : k = L.length := by omega
        have hIr := hI.keep hw
        have hkr := hkw.trans hw
        clear hI hL4 hkw hlt hk hw
        obtain ⟨wo, hwo⟩ : ∃ wo : World, wo = wr := ⟨_, rfl⟩
        subst hwo
        go_wp2_with fail
        go_loopw [2, 6] (fun _ i wr => ∃ k : Nat, k ≤ P.length ∧ i = .int .i64 k ∧ New wo wr) (fun _ i _ => P.length - (intOf i).toNat)
        case atStart => exact ⟨0, Nat.zero_le _, rfl, New.refl _⟩
        case round =>
          obtain ⟨k, hk, rfl, hw⟩ := hrel
          have c6 := fun w' (hn : New wr w') => c5 w' (hw.trans hn)
          clear c5
          by_cases hlt : k < P.length
          · obtain ⟨r, e1, e2, e3, e4⟩ := F2.out k hlt
            obtain ⟨b2, off2, x1, hA2, hx1, hc2⟩ := (hIr.keep hw).at_ hlt
            obtain ⟨b3, off3, x2, hA3, hx2, hc3⟩ := (hIr.keep hw).at_ e3
            rw [List.getElem?_eq_getElem hlt, hx1] at e1
            rw [List.getElem?_eq_getElem e3, hx2] at e4
            obtain rfl := Option.some.inj e1
            obtain rfl := Option.some.inj e4
            subst hA2
            simp only [Option.some.injEq, Addr.mk.injEq, and_true] at hA3
            obtain ⟨rfl, rfl⟩ := hA3
            have q1 : (0 : Int) ≤ (k : Int) := by omega
            have q2 : (k : Int) < (P.length : Int) := by omega
            have q3 : (0 : Int) ≤ (r : Int) := by omega
            have q4 : (r : Int) < (P.length : Int) := by omega
            have q5 : decide ((k : Int) < (r : Int)) = false := by simp; omega
            have q6 : ¬ (k : Int) < (r : Int) := by omega
            have q8 : ¬ k < r := by omega
            have q9 : decide (k < r) = false := by simp; omega
            have q7 : ((r : Int) != (r : Int)) = false := by simp
            clear hx1 hx2 e3 e2 hIr
            go_wp2_with fail
            go_quiet (fail)
            go_wp2_with fail
            go_roundw
            case rel => exact ⟨k + 1, by omega, by go_num, hw.trans (by repeat (first | with_reducible exact New.refl _ | with_reducible assumption | with_reducible refine New.alloc ?_ _ | with_reducible refine New.drewN ?_ _ | with_reducible refine New.drew ?_ | with_reducible refine New.setCell ?_ (by first | omega | (simp; done) | (simp; omega)) _ | with_reducible refine New.tail (by assumption) ?_))⟩
            case measure => simp [intOf]; omega
          · obtain rfl : k = P.length := by omega
            have q7 : ((P.length : Int) == (P.length : Int)) = true := by simp
            go_wp2_with fail
            go_ret
            exact ⟨rfl, hkr.trans hw⟩

set_option maxRecDepth 100000 in
theorem fnParts_lifted (os : Os) (started : os.Started) (H : Type) (enc : TypeId × Value → H) :
    ReturnsInHanded {} Tryd.checked os 4 .any (fun w args => (Rows.fnPartsSpec.pre enc Tryd.prog Tryd.f4 [] false w args ∧ laidMetH Tryd.prog laidL w) ∧ sizedMet enc Tryd.prog Tryd.f4 (OpenSpec.ofChange Rows.fnPartsSpec) false w args)
      (Rows.fnPartsSpec.post enc Tryd.prog Tryd.f4 false true false false) := by
  refine returnsInHanded_of_change_and (C := Tryd.checked) (X := fun w _ => laidMetH Tryd.prog laidL w) (fun _ _ _ hh h => h.of_heap hh) own started (by kernel_rfl) Tryd.func4
    (ChangeSpec.witness_shaped (enc := enc) (C := Tryd.checked) (os := os) (X := fun w _ => laidMetH Tryd.prog laidL w) false (World.doorLaid Tryd.prog 400 os) #[.slice none 0 0] 8 rfl (World.shaped_of_RefB (by kernel_rfl) (by kernel_rfl)) (by kernel_rfl) (by kernel_rfl) (by kernel_rfl) (laidL_met os _)) ?_
  intro W base args ds gs before hval0 hW _ _ hL _
  have hval : ∀ (j : Nat) t v, Tryd.f4.params[j]? = some t → args[j]? = some v → Value.okWide Tryd.prog W .any base t v := hval0
  have hW' := hW
  obtain ⟨p, q, hA0, hV, rfl, hfz, hnd⟩ := hW
  have hA : DataW.TrodAll enc Tryd.prog W 0 (fun _ => true) true Tryd.f4.params.toList args.toList ds p := hA0
  have hlt : ∀ x ∈ p ++ q, x.block < W.heap.size := fun x hx => hW'.lt x hx
  rw [Tryd.params4] at hA hval
  obtain ⟨v0, d0, rfl, rfl, h0⟩ := trodAll_one hA
  clear hA0 hval0
  have hL : laidMetH Tryd.prog laidL W := hL
  obtain ⟨A, n, cap, rfl, hB, hc, hn⟩ := open_bytes (hval 0 _ _ rfl rfl) h0
  refine (lawFnParts_walk A n cap W hB hc hn (tab_of_laid hL)).mono fun e W' ⟨he, hg⟩ => ?_
  subst he
  exact ⟨_, rfl, law_post laidOut hW' rfl ⟨rfl, rfl, rfl⟩ (by kernel_rfl) rfl Tryd.underlying4 hg⟩

theorem fnParts_over : Rows.fnPartsRow.holds Tryd.pinned (OpenSpec.ofChange Rows.fnPartsSpec) :=
  OpenClaim.holds_of_wide 4 Tryd.f4 rfl rfl rfl rfl rfl rfl rfl ⟨rfl, rfl, rfl, rfl, rfl⟩ rfl rfl rfl rfl rfl (by kernel_rfl) Tryd.func4 (by kernel_rfl)
    (of_decide_eq_true (by kernel_rfl)) (by unfold Func.isWrapper; first | (rw [if_pos (by decide +kernel)]; kernel_rfl) | (rw [if_neg (by decide +kernel)]; exact ⟨rfl, rfl⟩))
    (fun os started H enc _ => fnParts_lifted os started H enc)

/-- The given statement. -/
theorem fnParts_holds : Rows.FnPartsCardSaid :=
  Claim7.holds_tied_plain_at .later [] [.data, .data, .data] true Rows.fnPartsCard.stood.harness Rows.fnPartsCard.stood.looks
    fnParts_over (fun _ h => by cases h) (by kernel_rfl) (fun _ h => by cases h) fnParts_row_tie rfl ⟨rfl, rfl⟩ (by kernel_rfl) rfl
    (fun f fn hf hfn => by
      obtain rfl : f = 4 := Option.some.inj ((show Tryd.prog.funcNamed "loop.example/cavesurvey/laws.FnParts" = some 4 by kernel_rfl).symm.trans hf) |>.symm
      obtain rfl : fn = Tryd.f4 := (Option.some.inj (Tryd.func4.symm.trans hfn)).symm
      exact ⟨by kernel_rfl, fun j t ht => by
        rw [Tryd.params4] at ht
        have hm : t ∈ Tryd.f4.params.toList := by rw [Tryd.params4]; simpa using Array.mem_of_getElem? ht
        have hall : (Tryd.f4.params.toList.all fun u => !Tryd.prog.wantsStandIn u) = true := by kernel_rfl
        exact (show Tryd.prog.wantsStandIn t = false by simpa using List.all_eq_true.1 hall t hm)⟩)
    (by kernel_rfl)

#print axioms fnParts_holds
end Go.Proofs.YtgcloaimolajjaaDoor
