/- FnMatrixValid: whatever the code is, the law returns true and leaves it as it was. No condition. -/
import Derived.Test.YtmdeekojioeomaaDoorMxB
import Derived.Test.YtmdeekojioeomaaDoorMat
import Derived.Test.YtmdeekojioeomaaDoorDoor
namespace Go.Proofs.YtmdeekojioeomaaDoor
open Go.ChangeShapes Go.WideShapes Go.ChangeAt Go.RowKit Go.Deep Go.Joins
set_option linter.all false
theorem New.onlyMx {a b c : World} {g : Nat} (h : New a b) (ho : Only g b c) (hg : a.heap.size ≤ g) : New a c := h.only ho hg
set_option maxHeartbeats 1000000 in
theorem drawMatrixValid_any (A : Option Addr) (n cap : Nat) (w : World) (hB : Bytes w A n) (hc : n ≤ cap) (hn : n ≤ maxLen) :
    Calls Tryd.prog 18 #[.slice A n cap] w fun r w' => ∃ v, r = .returned v ∧ MxOut w' v ∧ New w w' := by
  go_enter Tryd.func18, Tryd.ntmps18
  go_wp2_with fail
  refine (l20Open_any A n cap _ hB hc hn).mono ?_
  rintro _ w1 ⟨rfl, hn1, hr1⟩
  go_wp2_with fail
  refine (l20Matrix_any _ _ _ _ hr1 (by omega) (by omega)).mono ?_
  rintro _ w2 ⟨v, rfl, hM, ho⟩
  have hk : New w w2 := hn1.only ho (Nat.le_refl _)
  obtain ⟨B, M, c, rfl, h6, hMc, h5, hMA⟩ := hM
  clear hn1 hr1 ho
  go_wp2_with fail
  go_ret
  exact ⟨_, rfl, ⟨B, M, c, rfl, h6, hMc, h5, hMA⟩, hk⟩
theorem MatAt.take {w : World} {A : Option Addr} {M : List (List Int)} (h : MatAt w A M) (m : Nat) : MatAt w A (M.take m) := fun hne => by
  obtain ⟨b, off, e, hb, hc⟩ := h (by rintro rfl; simp at hne)
  refine ⟨b, off, e, hb, fun k r hk => hc k r ?_⟩
  rw [List.getElem?_take] at hk
  split at hk
  · exact hk
  · cases hk
/-- Without its last row a valid matrix of two rows or more is not valid. -/
theorem mv_take {M : List (List Int)} (h : mvB M = true) (h2 : 2 ≤ M.length) : mvB (M.take (M.length - 1)) = false := by
  cases h3 : mvB (M.take (M.length - 1))
  · rfl
  · have a := (mvB_true h).2 _ (List.getElem_mem (show 0 < M.length by omega))
    have b := (mvB_true h3).2 (M[0]'(by omega)) (by
      rw [List.mem_iff_getElem]
      exact ⟨0, by rw [List.length_take]; omega, by rw [List.getElem_take]⟩)
    rw [List.length_take] at b
    omega
set_option maxHeartbeats 4000000 in
set_option maxRecDepth 100000 in
theorem lawFnMatrixValid_walk (A : Option Addr) (n cap : Nat) (w : World) (hB : Bytes w A n) (hc : n ≤ cap) (hn : n ≤ maxLen) (ht : Tab w) :
    Calls Tryd.prog 7 #[.slice A n cap] w fun r w' => r = .returned (.bool true) ∧ New w w' := by
  by_cases hbig : (1048576 : Int) < (n : Int)
  · go_enter Tryd.func7, Tryd.ntmps7
    go_wp2_with fail
    go_ret
    exact ⟨rfl, New.refl _⟩
  have HT := Lib.hid ht
  clear ht
  go_enter Tryd.func7, Tryd.ntmps7
  go_wp2_with fail
  refine (drawMatrixValid_any A n cap _ hB hc hn).mono ?_
  rintro _ w1 ⟨v, rfl, ⟨B, M, c, rfl, h6, hMc, h5, hM⟩, hn1⟩
  have hrow : ∀ r ∈ M, r.length ≤ 1099511627776 := fun r hr => by have := h5 r hr; omega
  have H1 : ∀ w', New w1 w' → Calls Tryd.prog 19 #[.slice B M.length c] w' fun r w'' => r = .returned (.bool (mvB M)) ∧ New w' w'' := fun w' hn => implMatrixValid_any B c M w' (hM.keep hn) (by omega) hrow
  have H2 : ∀ w', New w1 w' → Calls Tryd.prog 20 #[.slice B M.length c] w' fun r w'' => r = .returned (.bool (mvB M)) ∧ New w' w'' := fun w' hn => specMatrixValid_any B c M w' (hM.keep hn) (by omega) hrow
  have H3 : ∀ w', New w1 w' → Calls Tryd.prog 12 #[] w' fun r w'' => r = .returned (.bool true) ∧ New w' w'' := fun w' hn => alive_any w' (HT.out.keep (hn1.trans hn))
  have H4 : ∀ w', Calls Tryd.prog 19 #[.slice none 0 0] w' fun r w'' => r = .returned (.bool true) ∧ New w' w'' := fun w' => implMatrixValid_any none 0 [] w' (fun h => absurd rfl h) (by simp) (by simp)
  have H5 : ∀ w', New w1 w' → Calls Tryd.prog 19 #[.slice B (M.length - 1) c] w' fun r w'' => r = .returned (.bool (mvB (M.take (M.length - 1)))) ∧ New w' w'' := fun w' hn => by
    have := implMatrixValid_any B c (M.take (M.length - 1)) w' ((hM.take _).keep hn) (by rw [List.length_take]; omega) (fun r hr => hrow r (List.mem_of_mem_take hr))
    rwa [List.length_take, Nat.min_eq_left (by omega)] at this
  have hbn : 0 < M.length → ∃ b off, B = some ⟨b, off, none⟩ := fun h => by
    obtain ⟨b, off, e, _⟩ := hM (by rintro rfl; simp at h)
    exact ⟨b, off, e⟩
  obtain ⟨L, hL⟩ : ∃ L, M.length = L := ⟨_, rfl⟩
  obtain ⟨ok, hok⟩ : ∃ ok, mvB M = ok := ⟨_, rfl⟩
  obtain ⟨ok2, hok2⟩ : ∃ ok2, mvB (M.take (M.length - 1)) = ok2 := ⟨_, rfl⟩
  have hF : ok = true → 2 ≤ L → ok2 = false := fun h h2 => by rw [← hok2]; exact mv_take (hok.trans h) (by omega)
  rw [hok2] at H5
  rw [hok] at H1 H2
  rw [hL] at H1 H2 H5 hMc h6 hbn ⊢
  clear hok hok2 hrow hM hB hc hn h5
  cases ok
  · clear hF H5 hbn
    go_wp2_with (first | (go_at_call 19; (first | with_reducible refine (H1 _ (by repeat (first | with_reducible exact New.refl _ | with_reducible assumption | with_reducible refine New.alloc ?_ _ | with_reducible refine New.drewN ?_ _ | with_reducible refine New.drew ?_ | with_reducible refine New.setCell ?_ (by first | omega | (simp; done) | (simp; omega)) _ | with_reducible refine New.tail (by assumption) ?_))).mono ?_ | with_reducible refine (H4 _).mono ?_); rintro _ w2 ⟨rfl, hn2⟩; have hk2 : New w1 w2 := New.tail hn2 (by repeat (first | with_reducible exact New.refl _ | with_reducible assumption | with_reducible refine New.alloc ?_ _ | with_reducible refine New.drewN ?_ _ | with_reducible refine New.drew ?_ | with_reducible refine New.setCell ?_ (by first | omega | (simp; done) | (simp; omega)) _ | with_reducible refine New.tail (by assumption) ?_))) | (go_at_call 20; with_reducible refine (H2 _ (by repeat (first | with_reducible exact New.refl _ | with_reducible assumption | with_reducible refine New.alloc ?_ _ | with_reducible refine New.drewN ?_ _ | with_reducible refine New.drew ?_ | with_reducible refine New.setCell ?_ (by first | omega | (simp; done) | (simp; omega)) _ | with_reducible refine New.tail (by assumption) ?_))).mono ?_; rintro _ w3 ⟨rfl, hn3⟩; have hk3 : New w1 w3 := New.tail hn3 (by repeat (first | with_reducible exact New.refl _ | with_reducible assumption | with_reducible refine New.alloc ?_ _ | with_reducible refine New.drewN ?_ _ | with_reducible refine New.drew ?_ | with_reducible refine New.setCell ?_ (by first | omega | (simp; done) | (simp; omega)) _ | with_reducible refine New.tail (by assumption) ?_))) | (go_at_call 12; with_reducible refine (H3 _ (by repeat (first | with_reducible exact New.refl _ | with_reducible assumption | with_reducible refine New.alloc ?_ _ | with_reducible refine New.drewN ?_ _ | with_reducible refine New.drew ?_ | with_reducible refine New.setCell ?_ (by first | omega | (simp; done) | (simp; omega)) _ | with_reducible refine New.tail (by assumption) ?_))).mono ?_; rintro _ w4 ⟨rfl, hn4⟩; have hk4 : New w1 w4 := New.tail hn4 (by repeat (first | with_reducible exact New.refl _ | with_reducible assumption | with_reducible refine New.alloc ?_ _ | with_reducible refine New.drewN ?_ _ | with_reducible refine New.drew ?_ | with_reducible refine New.setCell ?_ (by first | omega | (simp; done) | (simp; omega)) _ | with_reducible refine New.tail (by assumption) ?_))))
    go_ret
    exact ⟨rfl, hn1.trans hk4⟩
  · by_cases hL0 : L = 0
    · subst hL0
      clear hF H5 hbn
      go_wp2_with (first | (go_at_call 19; (first | with_reducible refine (H1 _ (by repeat (first | with_reducible exact New.refl _ | with_reducible assumption | with_reducible refine New.alloc ?_ _ | with_reducible refine New.drewN ?_ _ | with_reducible refine New.drew ?_ | with_reducible refine New.setCell ?_ (by first | omega | (simp; done) | (simp; omega)) _ | with_reducible refine New.tail (by assumption) ?_))).mono ?_ | with_reducible refine (H4 _).mono ?_); rintro _ w2 ⟨rfl, hn2⟩; have hk2 : New w1 w2 := New.tail hn2 (by repeat (first | with_reducible exact New.refl _ | with_reducible assumption | with_reducible refine New.alloc ?_ _ | with_reducible refine New.drewN ?_ _ | with_reducible refine New.drew ?_ | with_reducible refine New.setCell ?_ (by first | omega | (simp; done) | (simp; omega)) _ | with_reducible refine New.tail (by assumption) ?_))) | (go_at_call 20; with_reducible refine (H2 _ (by repeat (first | with_reducible exact New.refl _ | with_reducible assumption | with_reducible refine New.alloc ?_ _ | with_reducible refine New.drewN ?_ _ | with_reducible refine New.drew ?_ | with_reducible refine New.setCell ?_ (by first | omega | (simp; done) | (simp; omega)) _ | with_reducible refine New.tail (by assumption) ?_))).mono ?_; rintro _ w3 ⟨rfl, hn3⟩; have hk3 : New w1 w3 := New.tail hn3 (by repeat (first | with_reducible exact New.refl _ | with_reducible assumption | with_reducible refine New.alloc ?_ _ | with_reducible refine New.drewN ?_ _ | with_reducible refine New.drew ?_ | with_reducible refine New.setCell ?_ (by first | omega | (simp; done) | (simp; omega)) _ | with_reducible refine New.tail (by assumption) ?_))) | (go_at_call 12; with_reducible refine (H3 _ (by repeat (first | with_reducible exact New.refl _ | with_reducible assumption | with_reducible refine New.alloc ?_ _ | with_reducible refine New.drewN ?_ _ | with_reducible refine New.drew ?_ | with_reducible refine New.setCell ?_ (by first | omega | (simp; done) | (simp; omega)) _ | with_reducible refine New.tail (by assumption) ?_))).mono ?_; rintro _ w4 ⟨rfl, hn4⟩; have hk4 : New w1 w4 := New.tail hn4 (by repeat (first | with_reducible exact New.refl _ | with_reducible assumption | with_reducible refine New.alloc ?_ _ | with_reducible refine New.drewN ?_ _ | with_reducible refine New.drew ?_ | with_reducible refine New.setCell ?_ (by first | omega | (simp; done) | (simp; omega)) _ | with_reducible refine New.tail (by assumption) ?_))))
      go_ret
      exact ⟨rfl, hn1.trans hk4⟩
    · obtain ⟨b, off, rfl⟩ := hbn (by omega)
      have e0 : ((L : Int) == 0) = false := by simpa using (show (L : Int) ≠ 0 by omega)
      have e1 : IntKind.i64.wrap ((L : Int) - 1) = (L : Int) - 1 := by rw [IntKind.wrap_i64]; omega
      obtain ⟨q, hq⟩ : ∃ q, L - 1 = q := ⟨_, rfl⟩
      have e2 : (L : Int) - 1 = (q : Int) := by omega
      have e3 : IntKind.i64.wrap (q : Int) = (q : Int) := by rw [IntKind.wrap_i64]; omega
      have e4 : (0 : Int) ≤ (q : Int) := by omega
      have e5 : (q : Int) ≤ (c : Int) := by omega
      have e6 : q ≤ c := by omega
      rw [hq] at H5
      by_cases hL1 : L = 1
      · have e7 : ((L : Int) == 1) = true := by simp; omega
        have HL := Lib.hid hL1
        clear hF hL1 hL0 hq hbn
        cases ok2
        all_goals
          go_wp2_with (first | (go_at_call 19; (first | with_reducible refine (H1 _ (by repeat (first | with_reducible exact New.refl _ | with_reducible assumption | with_reducible refine New.alloc ?_ _ | with_reducible refine New.drewN ?_ _ | with_reducible refine New.drew ?_ | with_reducible refine New.setCell ?_ (by first | omega | (simp; done) | (simp; omega)) _ | with_reducible refine New.tail (by assumption) ?_))).mono ?_ | with_reducible refine (H5 _ (by repeat (first | with_reducible exact New.refl _ | with_reducible assumption | with_reducible refine New.alloc ?_ _ | with_reducible refine New.drewN ?_ _ | with_reducible refine New.drew ?_ | with_reducible refine New.setCell ?_ (by first | omega | (simp; done) | (simp; omega)) _ | with_reducible refine New.tail (by assumption) ?_))).mono ?_ | with_reducible refine (H4 _).mono ?_); rintro _ w2 ⟨rfl, hn2⟩; have hk2 : New w1 w2 := New.tail hn2 (by repeat (first | with_reducible exact New.refl _ | with_reducible assumption | with_reducible refine New.alloc ?_ _ | with_reducible refine New.drewN ?_ _ | with_reducible refine New.drew ?_ | with_reducible refine New.setCell ?_ (by first | omega | (simp; done) | (simp; omega)) _ | with_reducible refine New.tail (by assumption) ?_))) | (go_at_call 20; with_reducible refine (H2 _ (by repeat (first | with_reducible exact New.refl _ | with_reducible assumption | with_reducible refine New.alloc ?_ _ | with_reducible refine New.drewN ?_ _ | with_reducible refine New.drew ?_ | with_reducible refine New.setCell ?_ (by first | omega | (simp; done) | (simp; omega)) _ | with_reducible refine New.tail (by assumption) ?_))).mono ?_; rintro _ w3 ⟨rfl, hn3⟩; have hk3 : New w1 w3 := New.tail hn3 (by repeat (first | with_reducible exact New.refl _ | with_reducible assumption | with_reducible refine New.alloc ?_ _ | with_reducible refine New.drewN ?_ _ | with_reducible refine New.drew ?_ | with_reducible refine New.setCell ?_ (by first | omega | (simp; done) | (simp; omega)) _ | with_reducible refine New.tail (by assumption) ?_))) | (go_at_call 12; with_reducible refine (H3 _ (by repeat (first | with_reducible exact New.refl _ | with_reducible assumption | with_reducible refine New.alloc ?_ _ | with_reducible refine New.drewN ?_ _ | with_reducible refine New.drew ?_ | with_reducible refine New.setCell ?_ (by first | omega | (simp; done) | (simp; omega)) _ | with_reducible refine New.tail (by assumption) ?_))).mono ?_; rintro _ w4 ⟨rfl, hn4⟩; have hk4 : New w1 w4 := New.tail hn4 (by repeat (first | with_reducible exact New.refl _ | with_reducible assumption | with_reducible refine New.alloc ?_ _ | with_reducible refine New.drewN ?_ _ | with_reducible refine New.drew ?_ | with_reducible refine New.setCell ?_ (by first | omega | (simp; done) | (simp; omega)) _ | with_reducible refine New.tail (by assumption) ?_))))
          go_ret
          exact ⟨rfl, hn1.trans hk4⟩
      · obtain rfl := hF rfl (by omega)
        clear hF hL1 hL0 hq hbn
        go_wp2_with (first | (go_at_call 19; (first | with_reducible refine (H1 _ (by repeat (first | with_reducible exact New.refl _ | with_reducible assumption | with_reducible refine New.alloc ?_ _ | with_reducible refine New.drewN ?_ _ | with_reducible refine New.drew ?_ | with_reducible refine New.setCell ?_ (by first | omega | (simp; done) | (simp; omega)) _ | with_reducible refine New.tail (by assumption) ?_))).mono ?_ | with_reducible refine (H5 _ (by repeat (first | with_reducible exact New.refl _ | with_reducible assumption | with_reducible refine New.alloc ?_ _ | with_reducible refine New.drewN ?_ _ | with_reducible refine New.drew ?_ | with_reducible refine New.setCell ?_ (by first | omega | (simp; done) | (simp; omega)) _ | with_reducible refine New.tail (by assumption) ?_))).mono ?_ | with_reducible refine (H4 _).mono ?_); rintro _ w2 ⟨rfl, hn2⟩; have hk2 : New w1 w2 := New.tail hn2 (by repeat (first | with_reducible exact New.refl _ | with_reducible assumption | with_reducible refine New.alloc ?_ _ | with_reducible refine New.drewN ?_ _ | with_reducible refine New.drew ?_ | with_reducible refine New.setCell ?_ (by first | omega | (simp; done) | (simp; omega)) _ | with_reducible refine New.tail (by assumption) ?_))) | (go_at_call 20; with_reducible refine (H2 _ (by repeat (first | with_reducible exact New.refl _ | with_reducible assumption | with_reducible refine New.alloc ?_ _ | with_reducible refine New.drewN ?_ _ | with_reducible refine New.drew ?_ | with_reducible refine New.setCell ?_ (by first | omega | (simp; done) | (simp; omega)) _ | with_reducible refine New.tail (by assumption) ?_))).mono ?_; rintro _ w3 ⟨rfl, hn3⟩; have hk3 : New w1 w3 := New.tail hn3 (by repeat (first | with_reducible exact New.refl _ | with_reducible assumption | with_reducible refine New.alloc ?_ _ | with_reducible refine New.drewN ?_ _ | with_reducible refine New.drew ?_ | with_reducible refine New.setCell ?_ (by first | omega | (simp; done) | (simp; omega)) _ | with_reducible refine New.tail (by assumption) ?_))) | (go_at_call 12; with_reducible refine (H3 _ (by repeat (first | with_reducible exact New.refl _ | with_reducible assumption | with_reducible refine New.alloc ?_ _ | with_reducible refine New.drewN ?_ _ | with_reducible refine New.drew ?_ | with_reducible refine New.setCell ?_ (by first | omega | (simp; done) | (simp; omega)) _ | with_reducible refine New.tail (by assumption) ?_))).mono ?_; rintro _ w4 ⟨rfl, hn4⟩; have hk4 : New w1 w4 := New.tail hn4 (by repeat (first | with_reducible exact New.refl _ | with_reducible assumption | with_reducible refine New.alloc ?_ _ | with_reducible refine New.drewN ?_ _ | with_reducible refine New.drew ?_ | with_reducible refine New.setCell ?_ (by first | omega | (simp; done) | (simp; omega)) _ | with_reducible refine New.tail (by assumption) ?_))))
        go_ret
        exact ⟨rfl, hn1.trans hk4⟩

set_option maxRecDepth 100000 in
theorem fnMatrixValid_lifted (os : Os) (started : os.Started) (H : Type) (enc : TypeId × Value → H) :
    ReturnsInHanded {} Tryd.checked os 7 .any (fun w args => (Rows.fnMatrixValidSpec.pre enc Tryd.prog Tryd.f7 [] false w args ∧ laidMetH Tryd.prog laidL w) ∧ sizedMet enc Tryd.prog Tryd.f7 (OpenSpec.ofChange Rows.fnMatrixValidSpec) false w args)
      (Rows.fnMatrixValidSpec.post enc Tryd.prog Tryd.f7 false true false false) := by
  refine returnsInHanded_of_change_and (C := Tryd.checked) (X := fun w _ => laidMetH Tryd.prog laidL w) (fun _ _ _ hh h => h.of_heap hh) own started (by kernel_rfl) Tryd.func7
    (ChangeSpec.witness_shaped (enc := enc) (C := Tryd.checked) (os := os) (X := fun w _ => laidMetH Tryd.prog laidL w) false (World.doorLaid Tryd.prog 400 os) #[.slice none 0 0] 8 rfl (World.shaped_of_RefB (by kernel_rfl) (by kernel_rfl)) (by kernel_rfl) (by kernel_rfl) (by kernel_rfl) (laidL_met os _)) ?_
  intro W base args ds gs before hval0 hW _ _ hL _
  have hval : ∀ (j : Nat) t v, Tryd.f7.params[j]? = some t → args[j]? = some v → Value.okWide Tryd.prog W .any base t v := hval0
  have hW' := hW
  obtain ⟨p, q, hA0, hV, rfl, hfz, hnd⟩ := hW
  have hA : DataW.TrodAll enc Tryd.prog W 0 (fun _ => true) true Tryd.f7.params.toList args.toList ds p := hA0
  have hlt : ∀ x ∈ p ++ q, x.block < W.heap.size := fun x hx => hW'.lt x hx
  rw [Tryd.params7] at hA hval
  obtain ⟨v0, d0, rfl, rfl, h0⟩ := trodAll_one hA
  clear hA0 hval0
  have hL : laidMetH Tryd.prog laidL W := hL
  obtain ⟨A, n, cap, rfl, hB, hc, hn⟩ := open_bytes (hval 0 _ _ rfl rfl) h0
  refine (lawFnMatrixValid_walk A n cap W hB hc hn (tab_of_laid hL)).mono fun e W' ⟨he, hg⟩ => ?_
  subst he
  exact ⟨_, rfl, law_post laidOut hW' rfl ⟨rfl, rfl, rfl⟩ (by kernel_rfl) rfl Tryd.underlying4 hg⟩

theorem fnMatrixValid_over : Rows.fnMatrixValidRow.holds Tryd.pinned (OpenSpec.ofChange Rows.fnMatrixValidSpec) :=
  OpenClaim.holds_of_wide 7 Tryd.f7 rfl rfl rfl rfl rfl rfl rfl ⟨rfl, rfl, rfl, rfl, rfl⟩ rfl rfl rfl rfl rfl (by kernel_rfl) Tryd.func7 (by kernel_rfl)
    (of_decide_eq_true (by kernel_rfl)) (by unfold Func.isWrapper; first | (rw [if_pos (by decide +kernel)]; kernel_rfl) | (rw [if_neg (by decide +kernel)]; exact ⟨rfl, rfl⟩))
    (fun os started H enc _ => fnMatrixValid_lifted os started H enc)

/-- The given statement. -/
theorem fnMatrixValid_holds : Rows.FnMatrixValidCardSaid :=
  Claim7.holds_tied_plain_at .later [] [.data, .data, .data] true Rows.fnMatrixValidCard.stood.harness Rows.fnMatrixValidCard.stood.looks
    fnMatrixValid_over (fun _ h => by cases h) (by kernel_rfl) (fun _ h => by cases h) fnMatrixValid_row_tie rfl ⟨rfl, rfl⟩ (by kernel_rfl) rfl
    (fun f fn hf hfn => by
      obtain rfl : f = 7 := Option.some.inj ((show Tryd.prog.funcNamed "loop.example/cavesurvey/laws.FnMatrixValid" = some 7 by kernel_rfl).symm.trans hf) |>.symm
      obtain rfl : fn = Tryd.f7 := (Option.some.inj (Tryd.func7.symm.trans hfn)).symm
      exact ⟨by kernel_rfl, fun j t ht => by
        rw [Tryd.params7] at ht
        have hm : t ∈ Tryd.f7.params.toList := by rw [Tryd.params7]; simpa using Array.mem_of_getElem? ht
        have hall : (Tryd.f7.params.toList.all fun u => !Tryd.prog.wantsStandIn u) = true := by kernel_rfl
        exact (show Tryd.prog.wantsStandIn t = false by simpa using List.all_eq_true.1 hall t hm)⟩)
    (by kernel_rfl)

#print axioms fnMatrixValid_holds
end Go.Proofs.YtmdeekojioeomaaDoor
