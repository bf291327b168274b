/- FnWayTimes: whatever the code is, the law returns true and leaves it as it was. No condition. -/
import Derived.Test.YtpnjmifjaedfcaaDoorDrawL
import Derived.Test.YtpnjmifjaedfcaaDoorWay
import Derived.Test.YtpnjmifjaedfcaaDoorLeg
import Derived.Test.YtpnjmifjaedfcaaDoorEq
import Derived.Test.YtpnjmifjaedfcaaDoorDoor
namespace Go.Proofs.YtpnjmifjaedfcaaDoor
open Go.ChangeShapes Go.WideShapes Go.ChangeAt Go.RowKit Go.Deep Go.Joins
set_option linter.all false
theorem mu_next {a k : Int} (ha : -1000 ≤ a ∧ a ≤ 1000) (hk : -1000 ≤ k ∧ k ≤ 1000) : mu a (k + 1) = ad (mu a k) a := by
  have h1 : -1000000 ≤ a * k ∧ a * k ≤ 1000000 := by
    have h2 : (a * k).natAbs ≤ 1000 * 1000 := by rw [Int.natAbs_mul]; exact Nat.mul_le_mul (by omega) (by omega)
    omega
  unfold mu ad
  rw [Int.mul_add, Int.mul_one]
  unfold wrap64
  omega
theorem mu_zero (a : Int) : mu a 0 = 0 := by unfold mu wrap64; rw [Int.mul_zero]; omega
set_option maxHeartbeats 4000000 in
theorem lawFnWayTimes_walk (A : Option Addr) (n cap : Nat) (w : World) (hB : Bytes w A n) (hc : n ≤ cap) (hn : n ≤ maxLen) (ht : Tab w) :
    Calls Tryd.prog 8 #[.slice A n cap] w fun r w' => r = .returned (.bool true) ∧ New w w' := by
  by_cases hbig : (1048576 : Int) < (n : Int)
  · go_enter Tryd.func8, Tryd.ntmps8
    go_wp2_with fail
    go_ret
    exact ⟨rfl, New.refl _⟩
  have HT := Lib.hid ht
  clear ht
  go_enter Tryd.func8, Tryd.ntmps8
  go_wp2_with fail
  refine (drawWayTimes_any A n cap _ hB hc hn).mono ?_
  rintro e w1 ⟨a, b, c, k, rfl, hab, hk0, hn1⟩
  go_upto_region 4 with fail
  have h3 := (Has.new w1 #[.int .i64 a, .int .i64 b, .int .i64 c] 39)
  have hk : New w (w1.alloc (.cells #[.int .i64 a, .int .i64 b, .int .i64 c] 39)) := (by repeat (first | with_reducible exact New.refl _ | with_reducible assumption | with_reducible refine New.alloc ?_ _ | with_reducible refine New.drewN ?_ _ | with_reducible refine New.drew ?_ | with_reducible refine New.setCell ?_ (by first | omega | (simp; done) | (simp; omega)) _ | with_reducible refine New.tail (by assumption) ?_))
  generalize (w1.alloc (.cells #[.int .i64 a, .int .i64 b, .int .i64 c] 39)) = W1 at *
  have c3 := h3.cells3
  have H1 := fun w => implWayTimes_any a b c k w
  have H2 := fun w => specWayTimes_any a b c k w
  have hw : IntKind.i64.wrap (k + 1) = k + 1 := by rw [IntKind.wrap_i64]; omega
  have H3 := fun w => implWayTimes_any a b c (IntKind.i64.wrap (k + 1)) w
  have H4 := fun w => implWayAdd_any (mu a k) (mu b k) (mu c k) a b c w
  have H5 := fun w => implWayTimes_any a b c 0 w
  have m1 : mu a (IntKind.i64.wrap (k + 1)) = ad (mu a k) a := by rw [hw]; exact mu_next (by omega) (by omega)
  have m2 : mu b (IntKind.i64.wrap (k + 1)) = ad (mu b k) b := by rw [hw]; exact mu_next (by omega) (by omega)
  have m3 : mu c (IntKind.i64.wrap (k + 1)) = ad (mu c k) c := by rw [hw]; exact mu_next (by omega) (by omega)
  rw [m1, m2, m3] at H3
  clear hw m1 m2 m3
  rw [mu_zero, mu_zero, mu_zero] at H5
  obtain ⟨p, hp⟩ : ∃ x, ad (mu a k) a = x := ⟨_, rfl⟩
  obtain ⟨q, hq⟩ : ∃ x, ad (mu b k) b = x := ⟨_, rfl⟩
  obtain ⟨r, hr⟩ : ∃ x, ad (mu c k) c = x := ⟨_, rfl⟩
  rw [hp, hq, hr] at H3 H4
  obtain ⟨x, hx⟩ : ∃ x, mu a k = x := ⟨_, rfl⟩
  obtain ⟨y, hy⟩ : ∃ x, mu b k = x := ⟨_, rfl⟩
  obtain ⟨z, hz⟩ : ∃ x, mu c k = x := ⟨_, rfl⟩
  rw [hx, hy, hz] at H1 H2 H4
  clear hx hy hz hp hq hr h3 hab hB hc hn hn1
  go_wp2_with fail
  refine (H1 _).mono ?_
  rintro e1 w2 ⟨rfl, hn2⟩
  go_upto_region 5 with fail
  have h5 := Has.new w2 #[.int .i64 x, .int .i64 y, .int .i64 z] 39
  have hk2 : New W1 (w2.alloc (.cells #[.int .i64 x, .int .i64 y, .int .i64 z] 39)) := hn2.alloc _
  generalize (w2.alloc (.cells #[.int .i64 x, .int .i64 y, .int .i64 z] 39)) = W2 at *
  have k3 := fun w' (hn : New W2 w') => c3 w' (hk2.trans hn)
  have k5 := h5.cells3
  have HT2 := Lib.hid (HT.out.keep (hk.trans hk2))
  have q1 := way_eql
  clear c3 h5 hn2
  go_region_held3 (fun w' => New W2 w') ((repeat (first | with_reducible exact New.refl _ | with_reducible assumption | with_reducible refine New.alloc ?_ _ | with_reducible refine New.drewN ?_ _ | with_reducible refine New.drew ?_ | with_reducible refine New.setCell ?_ (by first | omega | (simp; done) | (simp; omega)) _ | with_reducible refine New.tail (by assumption) ?_))) (first | (go_at_call 25; (first | with_reducible refine (H1 _).mono ?_ | with_reducible refine (H3 _).mono ?_ | with_reducible refine (H5 _).mono ?_); rintro e1 y1 ⟨rfl, hy1⟩) | (go_at_call 23; refine (H4 _).mono ?_; rintro e1 y1 ⟨rfl, hy1⟩) | (go_at_call 27; refine (H2 _).mono ?_; rintro e1 y1 ⟨rfl, hy1⟩) | (go_at_call 16; refine (alive_any _ (HT2.out.keep (by repeat (first | with_reducible exact New.refl _ | with_reducible assumption | with_reducible refine New.alloc ?_ _ | with_reducible refine New.drewN ?_ _ | with_reducible refine New.drew ?_ | with_reducible refine New.setCell ?_ (by first | omega | (simp; done) | (simp; omega)) _ | with_reducible refine New.tail (by assumption) ?_)))).mono ?_; rintro e1 y1 ⟨rfl, hy1⟩))
  have hk3 : New W2 y1 := (by repeat (first | with_reducible exact New.refl _ | with_reducible assumption | with_reducible refine New.alloc ?_ _ | with_reducible refine New.drewN ?_ _ | with_reducible refine New.drew ?_ | with_reducible refine New.setCell ?_ (by first | omega | (simp; done) | (simp; omega)) _ | with_reducible refine New.tail (by assumption) ?_))
  go_wp2_with fail
  go_ret
  exact ⟨rfl, hk.trans (hk2.trans hk3)⟩

set_option maxRecDepth 100000 in
theorem fnWayTimes_lifted (os : Os) (started : os.Started) (H : Type) (enc : TypeId × Value → H) :
    ReturnsInHanded {} Tryd.checked os 8 .any (fun w args => (Rows.fnWayTimesSpec.pre enc Tryd.prog Tryd.f8 [] false w args ∧ laidMetH Tryd.prog laidL w) ∧ sizedMet enc Tryd.prog Tryd.f8 (OpenSpec.ofChange Rows.fnWayTimesSpec) false w args)
      (Rows.fnWayTimesSpec.post enc Tryd.prog Tryd.f8 false true false false) := by
  refine returnsInHanded_of_change_and (C := Tryd.checked) (X := fun w _ => laidMetH Tryd.prog laidL w) (fun _ _ _ hh h => h.of_heap hh) own started (by kernel_rfl) Tryd.func8
    (ChangeSpec.witness_shaped (enc := enc) (C := Tryd.checked) (os := os) (X := fun w _ => laidMetH Tryd.prog laidL w) false (World.doorLaid Tryd.prog 400 os) #[.slice none 0 0] 8 rfl (World.shaped_of_RefB (by kernel_rfl) (by kernel_rfl)) (by kernel_rfl) (by kernel_rfl) (by kernel_rfl) (laidL_met os _)) ?_
  intro W base args ds gs before hval0 hW _ _ hL _
  have hval : ∀ (j : Nat) t v, Tryd.f8.params[j]? = some t → args[j]? = some v → Value.okWide Tryd.prog W .any base t v := hval0
  have hW' := hW
  obtain ⟨p, q, hA0, hV, rfl, hfz, hnd⟩ := hW
  have hA : DataW.TrodAll enc Tryd.prog W 0 (fun _ => true) true Tryd.f8.params.toList args.toList ds p := hA0
  have hlt : ∀ x ∈ p ++ q, x.block < W.heap.size := fun x hx => hW'.lt x hx
  rw [Tryd.params8] at hA hval
  obtain ⟨v0, d0, rfl, rfl, h0⟩ := trodAll_one hA
  clear hA0 hval0
  have hL : laidMetH Tryd.prog laidL W := hL
  obtain ⟨A, n, cap, rfl, hB, hc, hn⟩ := open_bytes (hval 0 _ _ rfl rfl) h0
  refine (lawFnWayTimes_walk A n cap W hB hc hn (tab_of_laid hL)).mono fun e W' ⟨he, hg⟩ => ?_
  subst he
  exact ⟨_, rfl, law_post laidOut hW' rfl ⟨rfl, rfl, rfl⟩ (by kernel_rfl) rfl Tryd.underlying4 hg⟩

theorem fnWayTimes_over : Rows.fnWayTimesRow.holds Tryd.pinned (OpenSpec.ofChange Rows.fnWayTimesSpec) :=
  OpenClaim.holds_of_wide 8 Tryd.f8 rfl rfl rfl rfl rfl rfl rfl ⟨rfl, rfl, rfl, rfl, rfl⟩ rfl rfl rfl rfl rfl (by kernel_rfl) Tryd.func8 (by kernel_rfl)
    (of_decide_eq_true (by kernel_rfl)) (by unfold Func.isWrapper; first | (rw [if_pos (by decide +kernel)]; kernel_rfl) | (rw [if_neg (by decide +kernel)]; exact ⟨rfl, rfl⟩))
    (fun os started H enc _ => fnWayTimes_lifted os started H enc)

/-- The given statement. -/
theorem fnWayTimes_holds : Rows.FnWayTimesCardSaid :=
  Claim7.holds_tied_plain_at .later [] [.data, .data, .data] true Rows.fnWayTimesCard.stood.harness true
    fnWayTimes_over (fun _ h => by cases h) (by kernel_rfl) (fun _ h => by cases h) fnWayTimes_row_tie rfl ⟨rfl, rfl⟩ (by kernel_rfl) rfl
    (fun f fn hf hfn => by
      obtain rfl : f = 8 := Option.some.inj ((show Tryd.prog.funcNamed "loop.example/cavesurvey/laws.FnWayTimes" = some 8 by kernel_rfl).symm.trans hf) |>.symm
      obtain rfl : fn = Tryd.f8 := (Option.some.inj (Tryd.func8.symm.trans hfn)).symm
      exact ⟨by kernel_rfl, fun j t ht => by
        rw [Tryd.params8] at ht
        have hm : t ∈ Tryd.f8.params.toList := by rw [Tryd.params8]; simpa using Array.mem_of_getElem? ht
        have hall : (Tryd.f8.params.toList.all fun u => !Tryd.prog.wantsStandIn u) = true := by kernel_rfl
        exact (show Tryd.prog.wantsStandIn t = false by simpa using List.all_eq_true.1 hall t hm)⟩)
    (by kernel_rfl)

#print axioms fnWayTimes_holds
end Go.Proofs.YtpnjmifjaedfcaaDoor
