/- FnPartsMany: whatever the code is, the law returns true and leaves it as it was. No condition. -/
import Derived.Test.YtgcloaimolajjaaDoorDrawQ
import Derived.Test.YtgcloaimolajjaaDoorFnH
namespace Go.Proofs.YtgcloaimolajjaaDoor
open Go.ChangeShapes Go.WideShapes Go.ChangeAt Go.RowKit Go.Deep Go.Joins
set_option linter.all false
set_option maxHeartbeats 4000000 in
theorem lawFnPartsMany_walk (A : Option Addr) (n cap : Nat) (w : World) (hB : Bytes w A n) (hc : n ≤ cap) (hn : n ≤ maxLen) (ht : Tab w) :
    Calls Tryd.prog 6 #[.slice A n cap] w fun r w' => r = .returned (.bool true) ∧ New w w' := by
  by_cases hbig : (1048576 : Int) < (n : Int)
  · go_enter Tryd.func6, Tryd.ntmps6
    go_wp2_with fail
    go_ret
    exact ⟨rfl, New.refl _⟩
  have HT := Lib.hid ht
  clear ht
  go_enter Tryd.func6, Tryd.ntmps6
  go_wp2_with fail
  refine (drawPartsMany_any A n cap _ hB hc hn).mono ?_
  rintro _ w1 ⟨st, B, L, cp, rfl, ⟨hcp, s0, s1, hlen, hsm⟩, hL, hn1⟩
  clear hsm hB hc hn
  go_upto_region 4 with fail
  have h3 := Has.new w1 #[.int .i64 st, .slice B L.length cp] 25
  have hk : New w (w1.alloc (.cells #[.int .i64 st, .slice B L.length cp] 25)) := (by repeat (first | with_reducible exact New.refl _ | with_reducible assumption | with_reducible refine New.alloc ?_ _ | with_reducible refine New.drewN ?_ _ | with_reducible refine New.drew ?_ | with_reducible refine New.setCell ?_ (by first | omega | (simp; done) | (simp; omega)) _ | with_reducible refine New.tail (by assumption) ?_))
  have hL3 := hL.keep ((New.refl w1).alloc (.cells #[.int .i64 st, .slice B L.length cp] 25))
  generalize (w1.alloc (.cells #[.int .i64 st, .slice B L.length cp] 25)) = W1 at *
  have c3 := h3.cells2
  clear hL hn1
  have H3 : ∀ w', New W1 w' → Calls Tryd.prog 18 #[] w' fun r w'' => r = .returned (.bool true) ∧ New w' w'' := fun w' hn => alive_any w' (HT.out.keep (hk.trans hn))
  have H1 : ∀ w', New W1 w' → Calls Tryd.prog 27 #[.agg #[.int .i64 st, .slice B L.length cp]] w' fun r w'' => r = .returned (.int .i64 (pmZ st L)) ∧ New w' w'' := fun w' hn => implPartsMany_any st B cp L w' (hL3.keep hn) (by omega)
  have H2 : ∀ w', New W1 w' → Calls Tryd.prog 28 #[.agg #[.int .i64 st, .slice B L.length cp]] w' fun r w'' => r = .returned (.int .i64 (pmZ st L)) ∧ New w' w'' := fun w' hn => specPartsMany_any st B cp L w' (hL3.keep hn) (by omega)
  cases ok : svB st L
  · rw [pmZ_no ok] at H1 H2
    clear hL3 h3 ok
    go_wp2_with fail
    refine (H1 _ (by repeat (first | with_reducible exact New.refl _ | with_reducible assumption | with_reducible refine New.alloc ?_ _ | with_reducible refine New.drewN ?_ _ | with_reducible refine New.drew ?_ | with_reducible refine New.setCell ?_ (by first | omega | (simp; done) | (simp; omega)) _ | with_reducible refine New.tail (by assumption) ?_))).mono ?_
    rintro _ w2 ⟨rfl, hn2⟩
    go_wp2_with fail
    refine (H2 _ (by repeat (first | with_reducible exact New.refl _ | with_reducible assumption | with_reducible refine New.alloc ?_ _ | with_reducible refine New.drewN ?_ _ | with_reducible refine New.drew ?_ | with_reducible refine New.setCell ?_ (by first | omega | (simp; done) | (simp; omega)) _ | with_reducible refine New.tail (by assumption) ?_))).mono ?_
    rintro _ w3 ⟨rfl, hn3⟩
    have hk3 := hn2.trans hn3
    clear hn2 hn3
    go_wp2_with fail
    refine (H3 _ (by repeat (first | with_reducible exact New.refl _ | with_reducible assumption | with_reducible refine New.alloc ?_ _ | with_reducible refine New.drewN ?_ _ | with_reducible refine New.drew ?_ | with_reducible refine New.setCell ?_ (by first | omega | (simp; done) | (simp; omega)) _ | with_reducible refine New.tail (by assumption) ?_))).mono ?_
    rintro _ w4 ⟨rfl, hn4⟩
    go_wp2_with fail
    go_ret
    exact ⟨rfl, hk.trans (by repeat (first | with_reducible exact New.refl _ | with_reducible assumption | with_reducible refine New.alloc ?_ _ | with_reducible refine New.drewN ?_ _ | with_reducible refine New.drew ?_ | with_reducible refine New.setCell ?_ (by first | omega | (simp; done) | (simp; omega)) _ | with_reducible refine New.tail (by assumption) ?_))⟩
  · have hp1 := pm_pos ok
    have hp2 := (pmZ_bd st L).2
    have hp0 : L.length = 0 → pmZ st L = st := fun h => by
      obtain rfl := List.eq_nil_of_length_eq_zero h
      exact pm_nil ok
    have H4 : ∀ w', New W1 w' → Calls Tryd.prog 27 #[.agg #[.int .i64 st, .slice none 0 0]] w' fun r w'' => r = .returned (.int .i64 st) ∧ New w' w'' := fun w' hn => by
      have := implPartsMany_any st none 0 [] w' LegsAt.nil (by simp)
      rwa [pm_nil (svB_nil' ok)] at this
    have H5 : 0 < L.length → ∃ x, (x = pmZ st L ∨ x = pmZ st L + 1) ∧ ∀ w', New W1 w' → Calls Tryd.prog 27 #[.agg #[.int .i64 st, .slice B (L.length - 1) cp]] w' fun r w'' => r = .returned (.int .i64 x) ∧ New w' w'' := fun h0 =>
      ⟨_, pm_last ok h0, fun w' hn => by
        have := implPartsMany_any st B cp (L.take (L.length - 1)) w' ((hL3.take _).keep hn) (by rw [List.length_take]; omega)
        rwa [List.length_take, Nat.min_eq_left (by omega)] at this⟩
    obtain ⟨p, hp⟩ : ∃ p, pmZ st L = p := ⟨_, rfl⟩
    rw [hp] at H1 H2 H5 hp0 hp1 hp2
    have t1 : (st != st) = false := by simp
    have t2 : decide (p < 1) = false := by simp; omega
    have t3 : ¬ p < 1 := by omega
    have t4 : ¬ p < 0 := by omega
    have t5 : (p == -1) = false := by simp; omega
    obtain ⟨m, hm⟩ : ∃ m, L.length = m := ⟨_, rfl⟩
    rw [hm] at H1 H2 H5 hp0 c3 hcp hlen ⊢
    clear hL3 h3 ok hp hm
    go_wp2_with fail
    refine (H1 _ (by repeat (first | with_reducible exact New.refl _ | with_reducible assumption | with_reducible refine New.alloc ?_ _ | with_reducible refine New.drewN ?_ _ | with_reducible refine New.drew ?_ | with_reducible refine New.setCell ?_ (by first | omega | (simp; done) | (simp; omega)) _ | with_reducible refine New.tail (by assumption) ?_))).mono ?_
    rintro _ w2 ⟨rfl, hn2⟩
    go_wp2_with fail
    refine (H2 _ (by repeat (first | with_reducible exact New.refl _ | with_reducible assumption | with_reducible refine New.alloc ?_ _ | with_reducible refine New.drewN ?_ _ | with_reducible refine New.drew ?_ | with_reducible refine New.setCell ?_ (by first | omega | (simp; done) | (simp; omega)) _ | with_reducible refine New.tail (by assumption) ?_))).mono ?_
    rintro _ w3 ⟨rfl, hn3⟩
    have hk3 := hn2.trans hn3
    clear hn2 hn3
    go_wp2_with fail
    go_region_held3 (fun w' => New W1 w') ((repeat (first | with_reducible exact New.refl _ | with_reducible assumption | with_reducible refine New.alloc ?_ _ | with_reducible refine New.drewN ?_ _ | with_reducible refine New.drew ?_ | with_reducible refine New.setCell ?_ (by first | omega | (simp; done) | (simp; omega)) _ | with_reducible refine New.tail (by assumption) ?_))) (first | (go_at_call 27; refine (H4 _ (by repeat (first | with_reducible exact New.refl _ | with_reducible assumption | with_reducible refine New.alloc ?_ _ | with_reducible refine New.drewN ?_ _ | with_reducible refine New.drew ?_ | with_reducible refine New.setCell ?_ (by first | omega | (simp; done) | (simp; omega)) _ | with_reducible refine New.tail (by assumption) ?_))).mono ?_; rintro _ w4 ⟨rfl, hn4⟩))
    by_cases hm0 : m = 0
    · obtain rfl := hp0 hm0
      subst hm0
      go_wp2_with fail
      go_ret
      exact ⟨rfl, hk.trans (by repeat (first | with_reducible exact New.refl _ | with_reducible assumption | with_reducible refine New.alloc ?_ _ | with_reducible refine New.drewN ?_ _ | with_reducible refine New.drew ?_ | with_reducible refine New.setCell ?_ (by first | omega | (simp; done) | (simp; omega)) _ | with_reducible refine New.tail (by assumption) ?_))⟩
    · obtain ⟨x, hx, H6⟩ := H5 (by omega)
      have t6 : ((m : Int) == 0) = false := by simp; omega
      obtain ⟨k, hk1⟩ : ∃ k, m - 1 = k := ⟨_, rfl⟩
      rw [hk1] at H6
      have t7 : IntKind.i64.wrap ((m : Int) - 1) = (k : Int) := by rw [IntKind.wrap_i64]; omega
      have t8 : (0 : Int) ≤ (k : Int) := by omega
      have t9 : (k : Int) ≤ (cp : Int) := by omega
      have u1 : wrap64 (p + 1) = p + 1 := by unfold wrap64; omega
      have u2 : IntKind.i64.wrap (p + 1) = p + 1 := by rw [IntKind.wrap_i64]; omega
      have u3 : (p + 1 == p) = false := by simp; omega
      clear H5 hk1 hp0
      go_wp2_with fail
      go_region_held3 (fun w' => New W1 w') ((repeat (first | with_reducible exact New.refl _ | with_reducible assumption | with_reducible refine New.alloc ?_ _ | with_reducible refine New.drewN ?_ _ | with_reducible refine New.drew ?_ | with_reducible refine New.setCell ?_ (by first | omega | (simp; done) | (simp; omega)) _ | with_reducible refine New.tail (by assumption) ?_))) (first | (go_at_call 27; refine (H6 _ (by repeat (first | with_reducible exact New.refl _ | with_reducible assumption | with_reducible refine New.alloc ?_ _ | with_reducible refine New.drewN ?_ _ | with_reducible refine New.drew ?_ | with_reducible refine New.setCell ?_ (by first | omega | (simp; done) | (simp; omega)) _ | with_reducible refine New.tail (by assumption) ?_))).mono ?_; rintro _ w4 ⟨rfl, hn4⟩))
      rcases hx with rfl | rfl
      · go_wp2_with fail
        go_ret
        exact ⟨rfl, hk.trans (by repeat (first | with_reducible exact New.refl _ | with_reducible assumption | with_reducible refine New.alloc ?_ _ | with_reducible refine New.drewN ?_ _ | with_reducible refine New.drew ?_ | with_reducible refine New.setCell ?_ (by first | omega | (simp; done) | (simp; omega)) _ | with_reducible refine New.tail (by assumption) ?_))⟩
      · go_wp2_with fail
        go_ret
        exact ⟨rfl, hk.trans (by repeat (first | with_reducible exact New.refl _ | with_reducible assumption | with_reducible refine New.alloc ?_ _ | with_reducible refine New.drewN ?_ _ | with_reducible refine New.drew ?_ | with_reducible refine New.setCell ?_ (by first | omega | (simp; done) | (simp; omega)) _ | with_reducible refine New.tail (by assumption) ?_))⟩

set_option maxRecDepth 100000 in
theorem fnPartsMany_lifted (os : Os) (started : os.Started) (H : Type) (enc : TypeId × Value → H) :
    ReturnsInHanded {} Tryd.checked os 6 .any (fun w args => (Rows.fnPartsManySpec.pre enc Tryd.prog Tryd.f6 [] false w args ∧ laidMetH Tryd.prog laidL w) ∧ sizedMet enc Tryd.prog Tryd.f6 (OpenSpec.ofChange Rows.fnPartsManySpec) false w args)
      (Rows.fnPartsManySpec.post enc Tryd.prog Tryd.f6 false true false false) := by
  refine returnsInHanded_of_change_and (C := Tryd.checked) (X := fun w _ => laidMetH Tryd.prog laidL w) (fun _ _ _ hh h => h.of_heap hh) own started (by kernel_rfl) Tryd.func6
    (ChangeSpec.witness_shaped (enc := enc) (C := Tryd.checked) (os := os) (X := fun w _ => laidMetH Tryd.prog laidL w) false (World.doorLaid Tryd.prog 400 os) #[.slice none 0 0] 8 rfl (World.shaped_of_RefB (by kernel_rfl) (by kernel_rfl)) (by kernel_rfl) (by kernel_rfl) (by kernel_rfl) (laidL_met os _)) ?_
  intro W base args ds gs before hval0 hW _ _ hL _
  have hval : ∀ (j : Nat) t v, Tryd.f6.params[j]? = some t → args[j]? = some v → Value.okWide Tryd.prog W .any base t v := hval0
  have hW' := hW
  obtain ⟨p, q, hA0, hV, rfl, hfz, hnd⟩ := hW
  have hA : DataW.TrodAll enc Tryd.prog W 0 (fun _ => true) true Tryd.f6.params.toList args.toList ds p := hA0
  have hlt : ∀ x ∈ p ++ q, x.block < W.heap.size := fun x hx => hW'.lt x hx
  rw [Tryd.params6] at hA hval
  obtain ⟨v0, d0, rfl, rfl, h0⟩ := trodAll_one hA
  clear hA0 hval0
  have hL : laidMetH Tryd.prog laidL W := hL
  obtain ⟨A, n, cap, rfl, hB, hc, hn⟩ := open_bytes (hval 0 _ _ rfl rfl) h0
  refine (lawFnPartsMany_walk A n cap W hB hc hn (tab_of_laid hL)).mono fun e W' ⟨he, hg⟩ => ?_
  subst he
  exact ⟨_, rfl, law_post laidOut hW' rfl ⟨rfl, rfl, rfl⟩ (by kernel_rfl) rfl Tryd.underlying4 hg⟩

theorem fnPartsMany_over : Rows.fnPartsManyRow.holds Tryd.pinned (OpenSpec.ofChange Rows.fnPartsManySpec) :=
  OpenClaim.holds_of_wide 6 Tryd.f6 rfl rfl rfl rfl rfl rfl rfl ⟨rfl, rfl, rfl, rfl, rfl⟩ rfl rfl rfl rfl rfl (by kernel_rfl) Tryd.func6 (by kernel_rfl)
    (of_decide_eq_true (by kernel_rfl)) (by unfold Func.isWrapper; first | (rw [if_pos (by decide +kernel)]; kernel_rfl) | (rw [if_neg (by decide +kernel)]; exact ⟨rfl, rfl⟩))
    (fun os started H enc _ => fnPartsMany_lifted os started H enc)

/-- The given statement. -/
theorem fnPartsMany_holds : Rows.FnPartsManyCardSaid :=
  Claim7.holds_tied_plain_at .later [] [.data, .data, .data] true Rows.fnPartsManyCard.stood.harness Rows.fnPartsManyCard.stood.looks
    fnPartsMany_over (fun _ h => by cases h) (by kernel_rfl) (fun _ h => by cases h) fnPartsMany_row_tie rfl ⟨rfl, rfl⟩ (by kernel_rfl) rfl
    (fun f fn hf hfn => by
      obtain rfl : f = 6 := Option.some.inj ((show Tryd.prog.funcNamed "loop.example/cavesurvey/laws.FnPartsMany" = some 6 by kernel_rfl).symm.trans hf) |>.symm
      obtain rfl : fn = Tryd.f6 := (Option.some.inj (Tryd.func6.symm.trans hfn)).symm
      exact ⟨by kernel_rfl, fun j t ht => by
        rw [Tryd.params6] at ht
        have hm : t ∈ Tryd.f6.params.toList := by rw [Tryd.params6]; simpa using Array.mem_of_getElem? ht
        have hall : (Tryd.f6.params.toList.all fun u => !Tryd.prog.wantsStandIn u) = true := by kernel_rfl
        exact (show Tryd.prog.wantsStandIn t = false by simpa using List.all_eq_true.1 hall t hm)⟩)
    (by kernel_rfl)

#print axioms fnPartsMany_holds
end Go.Proofs.YtgcloaimolajjaaDoor
