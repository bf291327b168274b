/- FnLegBack: whatever the code is, the law returns true and leaves it as it was. No condition. -/
import Derived.Test.YtpnjmifjaedfcaaDoorDrawLeg
import Derived.Test.YtpnjmifjaedfcaaDoorWay
import Derived.Test.YtpnjmifjaedfcaaDoorLeg
import Derived.Test.YtpnjmifjaedfcaaDoorEq
import Derived.Test.YtpnjmifjaedfcaaDoorDoor
namespace Go.Proofs.YtpnjmifjaedfcaaDoor
open Go.ChangeShapes Go.WideShapes Go.ChangeAt Go.RowKit Go.Deep Go.Joins
set_option linter.all false
theorem ng_ng {a : Int} (ha : smallB a) : ng (ng a) = a := by unfold ng wrap64; unfold smallB at ha; omega
theorem ad_ng {a : Int} (ha : smallB a) : ad a (ng a) = 0 := by unfold ad ng wrap64; unfold smallB at ha; omega
set_option maxHeartbeats 4000000 in
theorem lawFnLegBack_walk (A : Option Addr) (n cap : Nat) (w : World) (hB : Bytes w A n) (hc : n ≤ cap) (hn : n ≤ maxLen) (ht : Tab w) :
    Calls Tryd.prog 9 #[.slice A n cap] w fun r w' => r = .returned (.bool true) ∧ New w w' := by
  by_cases hbig : (1048576 : Int) < (n : Int)
  · go_enter Tryd.func9, Tryd.ntmps9
    go_wp2_with fail
    go_ret
    exact ⟨rfl, New.refl _⟩
  have HT := Lib.hid ht
  clear ht
  go_enter Tryd.func9, Tryd.ntmps9
  go_wp2_with fail
  refine (drawLegBack_any A n cap _ hB hc hn).mono ?_
  rintro e w1 ⟨f, t, e, nn, u, rfl, ⟨-, -, s1, s2, s3⟩, hn1⟩
  go_upto_region 4 with fail
  have h3 := (Has.new w1 #[.int .i64 f, .int .i64 t, .int .i64 e, .int .i64 nn, .int .i64 u] 24)
  have hk : New w (w1.alloc (.cells #[.int .i64 f, .int .i64 t, .int .i64 e, .int .i64 nn, .int .i64 u] 24)) := (by repeat (first | with_reducible exact New.refl _ | with_reducible assumption | with_reducible refine New.alloc ?_ _ | with_reducible refine New.drewN ?_ _ | with_reducible refine New.drew ?_ | with_reducible refine New.setCell ?_ (by first | omega | (simp; done) | (simp; omega)) _ | with_reducible refine New.tail (by assumption) ?_))
  generalize (w1.alloc (.cells #[.int .i64 f, .int .i64 t, .int .i64 e, .int .i64 nn, .int .i64 u] 24)) = W1 at *
  have c3 := h3.cells5
  have H1 := fun w => implLegBack_any f t e nn u w
  have H2 := fun w => specLegBack_any f t e nn u w
  have H3 := fun w => implWayAdd_any e nn u (ng e) (ng nn) (ng u) w
  have H4 := fun w => implLegBack_any t f (ng e) (ng nn) (ng u) w
  rw [ad_ng s1, ad_ng s2, ad_ng s3] at H3
  rw [ng_ng s1, ng_ng s2, ng_ng s3] at H4
  obtain ⟨x, hx⟩ : ∃ x, ng e = x := ⟨_, rfl⟩
  obtain ⟨y, hy⟩ : ∃ x, ng nn = x := ⟨_, rfl⟩
  obtain ⟨z, hz⟩ : ∃ x, ng u = x := ⟨_, rfl⟩
  rw [hx, hy, hz] at H1 H2 H3 H4
  clear hx hy hz h3 s1 s2 s3 hB hc hn hn1
  go_wp2_with fail
  refine (H1 _).mono ?_
  rintro e1 w2 ⟨rfl, hn2⟩
  go_upto_region 5 with fail
  have h5 := Has.new w2 #[.int .i64 t, .int .i64 f, .int .i64 x, .int .i64 y, .int .i64 z] 24
  have hk2 : New W1 (w2.alloc (.cells #[.int .i64 t, .int .i64 f, .int .i64 x, .int .i64 y, .int .i64 z] 24)) := hn2.alloc _
  generalize (w2.alloc (.cells #[.int .i64 t, .int .i64 f, .int .i64 x, .int .i64 y, .int .i64 z] 24)) = W2 at *
  have k3 := fun w' (hn : New W2 w') => c3 w' (hk2.trans hn)
  have k5 := h5.cells5
  have q1 := way_eql
  have q2 := leg_eql
  have q3 := leg_neq
  clear c3 h5 hn2
  go_region_held3 (fun w' => New W2 w') ((repeat (first | with_reducible exact New.refl _ | with_reducible assumption | with_reducible refine New.alloc ?_ _ | with_reducible refine New.drewN ?_ _ | with_reducible refine New.drew ?_ | with_reducible refine New.setCell ?_ (by first | omega | (simp; done) | (simp; omega)) _ | with_reducible refine New.tail (by assumption) ?_))) (first | (go_at_call 30; refine (H2 _).mono ?_; rintro e1 y1 ⟨rfl, hy1⟩))
  have hk3 : New W2 y1 := (by repeat (first | with_reducible exact New.refl _ | with_reducible assumption | with_reducible refine New.alloc ?_ _ | with_reducible refine New.drewN ?_ _ | with_reducible refine New.drew ?_ | with_reducible refine New.setCell ?_ (by first | omega | (simp; done) | (simp; omega)) _ | with_reducible refine New.tail (by assumption) ?_))
  go_wp2_with fail
  refine (H3 _).mono ?_
  rintro e1 w3 ⟨rfl, hn3⟩
  go_upto_region 8 with fail
  have h7 := Has.new w3 #[.int .i64 0, .int .i64 0, .int .i64 0] 39
  have hk4 : New W2 (w3.alloc (.cells #[.int .i64 0, .int .i64 0, .int .i64 0] 39)) := (hk3.trans hn3).alloc _
  generalize (w3.alloc (.cells #[.int .i64 0, .int .i64 0, .int .i64 0] 39)) = W3 at *
  have m3 := fun w' (hn : New W3 w') => k3 w' (hk4.trans hn)
  have m5 := fun w' (hn : New W3 w') => k5 w' (hk4.trans hn)
  have m7 := h7.cells3
  have HT2 := Lib.hid (HT.out.keep (hk.trans (hk2.trans hk4)))
  clear k3 k5 h7 hn3 hk3
  go_region_held3 (fun w' => New W3 w') ((repeat (first | with_reducible exact New.refl _ | with_reducible assumption | with_reducible refine New.alloc ?_ _ | with_reducible refine New.drewN ?_ _ | with_reducible refine New.drew ?_ | with_reducible refine New.setCell ?_ (by first | omega | (simp; done) | (simp; omega)) _ | with_reducible refine New.tail (by assumption) ?_))) (first | (go_at_call 29; refine (H4 _).mono ?_; rintro e1 y2 ⟨rfl, hy2⟩) | (go_at_call 16; refine (alive_any _ (HT2.out.keep (by repeat (first | with_reducible exact New.refl _ | with_reducible assumption | with_reducible refine New.alloc ?_ _ | with_reducible refine New.drewN ?_ _ | with_reducible refine New.drew ?_ | with_reducible refine New.setCell ?_ (by first | omega | (simp; done) | (simp; omega)) _ | with_reducible refine New.tail (by assumption) ?_)))).mono ?_; rintro e1 y2 ⟨rfl, hy2⟩))
  have hk5 : New W3 y2 := (by repeat (first | with_reducible exact New.refl _ | with_reducible assumption | with_reducible refine New.alloc ?_ _ | with_reducible refine New.drewN ?_ _ | with_reducible refine New.drew ?_ | with_reducible refine New.setCell ?_ (by first | omega | (simp; done) | (simp; omega)) _ | with_reducible refine New.tail (by assumption) ?_))
  go_wp2_with fail
  go_ret
  exact ⟨rfl, hk.trans (hk2.trans (hk4.trans hk5))⟩

set_option maxRecDepth 100000 in
theorem fnLegBack_lifted (os : Os) (started : os.Started) (H : Type) (enc : TypeId × Value → H) :
    ReturnsInHanded {} Tryd.checked os 9 .any (fun w args => (Rows.fnLegBackSpec.pre enc Tryd.prog Tryd.f9 [] false w args ∧ laidMetH Tryd.prog laidL w) ∧ sizedMet enc Tryd.prog Tryd.f9 (OpenSpec.ofChange Rows.fnLegBackSpec) false w args)
      (Rows.fnLegBackSpec.post enc Tryd.prog Tryd.f9 false true false false) := by
  refine returnsInHanded_of_change_and (C := Tryd.checked) (X := fun w _ => laidMetH Tryd.prog laidL w) (fun _ _ _ hh h => h.of_heap hh) own started (by kernel_rfl) Tryd.func9
    (ChangeSpec.witness_shaped (enc := enc) (C := Tryd.checked) (os := os) (X := fun w _ => laidMetH Tryd.prog laidL w) false (World.doorLaid Tryd.prog 400 os) #[.slice none 0 0] 8 rfl (World.shaped_of_RefB (by kernel_rfl) (by kernel_rfl)) (by kernel_rfl) (by kernel_rfl) (by kernel_rfl) (laidL_met os _)) ?_
  intro W base args ds gs before hval0 hW _ _ hL _
  have hval : ∀ (j : Nat) t v, Tryd.f9.params[j]? = some t → args[j]? = some v → Value.okWide Tryd.prog W .any base t v := hval0
  have hW' := hW
  obtain ⟨p, q, hA0, hV, rfl, hfz, hnd⟩ := hW
  have hA : DataW.TrodAll enc Tryd.prog W 0 (fun _ => true) true Tryd.f9.params.toList args.toList ds p := hA0
  have hlt : ∀ x ∈ p ++ q, x.block < W.heap.size := fun x hx => hW'.lt x hx
  rw [Tryd.params9] at hA hval
  obtain ⟨v0, d0, rfl, rfl, h0⟩ := trodAll_one hA
  clear hA0 hval0
  have hL : laidMetH Tryd.prog laidL W := hL
  obtain ⟨A, n, cap, rfl, hB, hc, hn⟩ := open_bytes (hval 0 _ _ rfl rfl) h0
  refine (lawFnLegBack_walk A n cap W hB hc hn (tab_of_laid hL)).mono fun e W' ⟨he, hg⟩ => ?_
  subst he
  exact ⟨_, rfl, law_post laidOut hW' rfl ⟨rfl, rfl, rfl⟩ (by kernel_rfl) rfl Tryd.underlying4 hg⟩

theorem fnLegBack_over : Rows.fnLegBackRow.holds Tryd.pinned (OpenSpec.ofChange Rows.fnLegBackSpec) :=
  OpenClaim.holds_of_wide 9 Tryd.f9 rfl rfl rfl rfl rfl rfl rfl ⟨rfl, rfl, rfl, rfl, rfl⟩ rfl rfl rfl rfl rfl (by kernel_rfl) Tryd.func9 (by kernel_rfl)
    (of_decide_eq_true (by kernel_rfl)) (by unfold Func.isWrapper; first | (rw [if_pos (by decide +kernel)]; kernel_rfl) | (rw [if_neg (by decide +kernel)]; exact ⟨rfl, rfl⟩))
    (fun os started H enc _ => fnLegBack_lifted os started H enc)

/-- The given statement. -/
theorem fnLegBack_holds : Rows.FnLegBackCardSaid :=
  Claim7.holds_tied_plain_at .later [] [.data, .data, .data] true Rows.fnLegBackCard.stood.harness true
    fnLegBack_over (fun _ h => by cases h) (by kernel_rfl) (fun _ h => by cases h) fnLegBack_row_tie rfl ⟨rfl, rfl⟩ (by kernel_rfl) rfl
    (fun f fn hf hfn => by
      obtain rfl : f = 9 := Option.some.inj ((show Tryd.prog.funcNamed "loop.example/cavesurvey/laws.FnLegBack" = some 9 by kernel_rfl).symm.trans hf) |>.symm
      obtain rfl : fn = Tryd.f9 := (Option.some.inj (Tryd.func9.symm.trans hfn)).symm
      exact ⟨by kernel_rfl, fun j t ht => by
        rw [Tryd.params9] at ht
        have hm : t ∈ Tryd.f9.params.toList := by rw [Tryd.params9]; simpa using Array.mem_of_getElem? ht
        have hall : (Tryd.f9.params.toList.all fun u => !Tryd.prog.wantsStandIn u) = true := by kernel_rfl
        exact (show Tryd.prog.wantsStandIn t = false by simpa using List.all_eq_true.1 hall t hm)⟩)
    (by kernel_rfl)

#print axioms fnLegBack_holds
end Go.Proofs.YtpnjmifjaedfcaaDoor
