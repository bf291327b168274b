/- FnLegValid: whatever the code is, the law returns true and leaves it as it was. No condition. -/
import Derived.Test.YtpnjmifjaedfcaaDoorDrawLeg
import Derived.Test.YtpnjmifjaedfcaaDoorWay
import Derived.Test.YtpnjmifjaedfcaaDoorLeg
import Derived.Test.YtpnjmifjaedfcaaDoorEq
import Derived.Test.YtpnjmifjaedfcaaDoorDoor
namespace Go.Proofs.YtpnjmifjaedfcaaDoor
open Go.ChangeShapes Go.WideShapes Go.ChangeAt Go.RowKit Go.Deep Go.Joins
set_option linter.all false
theorem legB_back {st f t e n u : Int} (h1 : smallB e) (h2 : smallB n) (h3 : smallB u) : legB st t f (ng e) (ng n) (ng u) = legB st f t e n u := by
  unfold smallB at *
  rw [Bool.eq_iff_iff, legB_t, legB_t]
  unfold ng wrap64
  omega
theorem legB_same (st f e n u : Int) : legB st f f e n u = false := by
  cases h : legB st f f e n u
  · rfl
  · exact absurd rfl (legB_t.1 h).2.2.2.2.2.2.1
set_option maxHeartbeats 4000000 in
theorem lawFnLegValid_walk (A : Option Addr) (n cap : Nat) (w : World) (hB : Bytes w A n) (hc : n ≤ cap) (hn : n ≤ maxLen) (ht : Tab w) :
    Calls Tryd.prog 10 #[.slice A n cap] w fun r w' => r = .returned (.bool true) ∧ New w w' := by
  by_cases hbig : (1048576 : Int) < (n : Int)
  · go_enter Tryd.func10, Tryd.ntmps10
    go_wp2_with fail
    go_ret
    exact ⟨rfl, New.refl _⟩
  have HT := Lib.hid ht
  clear ht
  go_enter Tryd.func10, Tryd.ntmps10
  go_wp2_with fail
  refine (drawLegValid_any A n cap _ hB hc hn).mono ?_
  rintro _ w1 ⟨st, f, t, e, nn, u, rfl, hst, ⟨s1, s2, s3, s4, s5⟩, hn1⟩
  go_upto_region 4 with fail
  have h3 := (Has.new w1 #[.int .i64 f, .int .i64 t, .int .i64 e, .int .i64 nn, .int .i64 u] 24)
  have hk : New w (w1.alloc (.cells #[.int .i64 f, .int .i64 t, .int .i64 e, .int .i64 nn, .int .i64 u] 24)) := (by repeat (first | with_reducible exact New.refl _ | with_reducible assumption | with_reducible refine New.alloc ?_ _ | with_reducible refine New.drewN ?_ _ | with_reducible refine New.drew ?_ | with_reducible refine New.setCell ?_ (by first | omega | (simp; done) | (simp; omega)) _ | with_reducible refine New.tail (by assumption) ?_))
  generalize (w1.alloc (.cells #[.int .i64 f, .int .i64 t, .int .i64 e, .int .i64 nn, .int .i64 u] 24)) = W1 at *
  have c3 := h3.cells5
  have H1 := fun w => implLegValid_any st f t e nn u w
  have H2 := fun w => specLegValid_any st f t e nn u w
  have H3 := fun w => implLegBack_any f t e nn u w
  have H4 := fun w => implLegValid_any st t f (ng e) (ng nn) (ng u) w
  have H5 := fun w => implLegValid_any st f f e nn u w
  rw [legB_back s3 s4 s5] at H4
  rw [legB_same] at H5
  obtain ⟨ok, hok⟩ : ∃ x, legB st f t e nn u = x := ⟨_, rfl⟩
  rw [hok] at H1 H2 H4
  have hoo : (ok != ok) = false := by simp
  have hoe : (ok == ok) = true := by simp
  clear hok s1 s2 s3 s4 s5 hst hB hc hn hn1 h3
  go_wp2_with fail
  refine (H1 _).mono ?_
  rintro e1 w2 ⟨rfl, hn2⟩
  have k3 := fun w' (hn : New w2 w') => c3 w' (hn2.trans hn)
  go_wp2_with fail
  refine (H2 _).mono ?_
  rintro e1 w3 ⟨rfl, hn3⟩
  go_upto_region 7 with fail
  have m3 := fun w' (hn : New w3 w') => k3 w' (hn3.trans hn)
  have hn23 := hn2.trans hn3
  clear c3 k3 hn2 hn3
  go_upto_region 9 with fail
  have h5 := Has.new w3 #[.int .i64 f, .int .i64 f, .int .i64 e, .int .i64 nn, .int .i64 u] 24
  have hk2 : New W1 (w3.alloc (.cells #[.int .i64 f, .int .i64 f, .int .i64 e, .int .i64 nn, .int .i64 u] 24)) := hn23.alloc _
  have hk3 : New w3 (w3.alloc (.cells #[.int .i64 f, .int .i64 f, .int .i64 e, .int .i64 nn, .int .i64 u] 24)) := (New.refl _).alloc _
  generalize (w3.alloc (.cells #[.int .i64 f, .int .i64 f, .int .i64 e, .int .i64 nn, .int .i64 u] 24)) = W3 at *
  have k3 := fun w' (hn : New W3 w') => m3 w' (hk3.trans hn)
  have k5 := h5.cells5
  clear m3 hk3 h5 hn23
  go_wp2_with fail
  refine (H3 _).mono ?_
  rintro e1 w4 ⟨rfl, hn4⟩
  go_wp2_with fail
  refine (H4 _).mono ?_
  rintro e1 w5 ⟨rfl, hn5⟩
  have hn35 := hn4.trans hn5
  have m5 := fun w' (hn : New w5 w') => k5 w' (hn35.trans hn)
  clear k3 k5 hn4 hn5
  go_wp2_with fail
  refine (H5 _).mono ?_
  rintro e1 w6 ⟨rfl, hn6⟩
  have hk6 := hk.trans (hk2.trans (hn35.trans hn6))
  go_wp2_with fail
  refine (alive_any _ (HT.out.keep hk6)).mono ?_
  rintro e1 w7 ⟨rfl, hn7⟩
  go_wp2_with fail
  go_ret
  exact ⟨rfl, hk6.trans hn7⟩

set_option maxRecDepth 100000 in
theorem fnLegValid_lifted (os : Os) (started : os.Started) (H : Type) (enc : TypeId × Value → H) :
    ReturnsInHanded {} Tryd.checked os 10 .any (fun w args => (Rows.fnLegValidSpec.pre enc Tryd.prog Tryd.f10 [] false w args ∧ laidMetH Tryd.prog laidL w) ∧ sizedMet enc Tryd.prog Tryd.f10 (OpenSpec.ofChange Rows.fnLegValidSpec) false w args)
      (Rows.fnLegValidSpec.post enc Tryd.prog Tryd.f10 false true false false) := by
  refine returnsInHanded_of_change_and (C := Tryd.checked) (X := fun w _ => laidMetH Tryd.prog laidL w) (fun _ _ _ hh h => h.of_heap hh) own started (by kernel_rfl) Tryd.func10
    (ChangeSpec.witness_shaped (enc := enc) (C := Tryd.checked) (os := os) (X := fun w _ => laidMetH Tryd.prog laidL w) false (World.doorLaid Tryd.prog 400 os) #[.slice none 0 0] 8 rfl (World.shaped_of_RefB (by kernel_rfl) (by kernel_rfl)) (by kernel_rfl) (by kernel_rfl) (by kernel_rfl) (laidL_met os _)) ?_
  intro W base args ds gs before hval0 hW _ _ hL _
  have hval : ∀ (j : Nat) t v, Tryd.f10.params[j]? = some t → args[j]? = some v → Value.okWide Tryd.prog W .any base t v := hval0
  have hW' := hW
  obtain ⟨p, q, hA0, hV, rfl, hfz, hnd⟩ := hW
  have hA : DataW.TrodAll enc Tryd.prog W 0 (fun _ => true) true Tryd.f10.params.toList args.toList ds p := hA0
  have hlt : ∀ x ∈ p ++ q, x.block < W.heap.size := fun x hx => hW'.lt x hx
  rw [Tryd.params10] at hA hval
  obtain ⟨v0, d0, rfl, rfl, h0⟩ := trodAll_one hA
  clear hA0 hval0
  have hL : laidMetH Tryd.prog laidL W := hL
  obtain ⟨A, n, cap, rfl, hB, hc, hn⟩ := open_bytes (hval 0 _ _ rfl rfl) h0
  refine (lawFnLegValid_walk A n cap W hB hc hn (tab_of_laid hL)).mono fun e W' ⟨he, hg⟩ => ?_
  subst he
  exact ⟨_, rfl, law_post laidOut hW' rfl ⟨rfl, rfl, rfl⟩ (by kernel_rfl) rfl Tryd.underlying4 hg⟩

theorem fnLegValid_over : Rows.fnLegValidRow.holds Tryd.pinned (OpenSpec.ofChange Rows.fnLegValidSpec) :=
  OpenClaim.holds_of_wide 10 Tryd.f10 rfl rfl rfl rfl rfl rfl rfl ⟨rfl, rfl, rfl, rfl, rfl⟩ rfl rfl rfl rfl rfl (by kernel_rfl) Tryd.func10 (by kernel_rfl)
    (of_decide_eq_true (by kernel_rfl)) (by unfold Func.isWrapper; first | (rw [if_pos (by decide +kernel)]; kernel_rfl) | (rw [if_neg (by decide +kernel)]; exact ⟨rfl, rfl⟩))
    (fun os started H enc _ => fnLegValid_lifted os started H enc)

/-- The given statement. -/
theorem fnLegValid_holds : Rows.FnLegValidCardSaid :=
  Claim7.holds_tied_plain_at .later [] [.data, .data, .data] true Rows.fnLegValidCard.stood.harness true
    fnLegValid_over (fun _ h => by cases h) (by kernel_rfl) (fun _ h => by cases h) fnLegValid_row_tie rfl ⟨rfl, rfl⟩ (by kernel_rfl) rfl
    (fun f fn hf hfn => by
      obtain rfl : f = 10 := Option.some.inj ((show Tryd.prog.funcNamed "loop.example/cavesurvey/laws.FnLegValid" = some 10 by kernel_rfl).symm.trans hf) |>.symm
      obtain rfl : fn = Tryd.f10 := (Option.some.inj (Tryd.func10.symm.trans hfn)).symm
      exact ⟨by kernel_rfl, fun j t ht => by
        rw [Tryd.params10] at ht
        have hm : t ∈ Tryd.f10.params.toList := by rw [Tryd.params10]; simpa using Array.mem_of_getElem? ht
        have hall : (Tryd.f10.params.toList.all fun u => !Tryd.prog.wantsStandIn u) = true := by kernel_rfl
        exact (show Tryd.prog.wantsStandIn t = false by simpa using List.all_eq_true.1 hall t hm)⟩)
    (by kernel_rfl)

#print axioms fnLegValid_holds
end Go.Proofs.YtpnjmifjaedfcaaDoor
