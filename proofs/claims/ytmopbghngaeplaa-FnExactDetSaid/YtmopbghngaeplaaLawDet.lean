/- FnExactDet: whatever the matrix is, the law returns true and leaves it as it was. No condition. -/
import Derived.Test.YtmopbghngaeplaaSDet
namespace Go.Proofs.Ytmopbghngaeplaa
open Go.ChangeShapes Go.WideShapes Go.ChangeAt Go.RowKit Go.Deep Go.Joins
set_option linter.all false
set_option maxHeartbeats 2000000 in
theorem lawDet_walk (A : Option Addr) (cap : Nat) (M : List (List Int)) (w : World) (hM : MatAt w A M) (hm : M.length ≤ maxLen) (hr : ∀ r ∈ M, r.length ≤ maxLen) :
    Calls Try.prog 10 #[.slice A M.length cap] w fun r w' => r = .returned (.bool true) ∧ New w w' := by
  have HR := Lib.hid hr
  clear hr
  go_enter Try.func10, Try.ntmps10
  go_wp2_with fail
  refine (szIntSS_any _ _ _ _ hM hm HR.out).mono ?_
  rintro e w1 ⟨hn1, rfl | ⟨z, hz0, rfl, hz1, hs, hrs⟩⟩
  · go_wp2_with fail
    go_ret
    exact ⟨rfl, hn1⟩
  have hs' : M.length ≤ 1099511627776 := by omega
  have HRS : Hid (∀ r ∈ M, r.length ≤ 1099511627776) := fun r h => Nat.le_trans (hrs r h) (by omega)
  clear hrs HR hm
  go_wp2_with fail
  refine (toIntSS_any _ _ _ _ (hM.keep hn1) hs' HRS.out).mono ?_
  rintro e w2 ⟨g2, rfl, hF2, hn2⟩
  go_wp2_with fail
  refine (specDet_any _ _ _ _ hF2.readsC hs' HRS.out).mono ?_
  rintro e w3 ⟨rfl, hn3⟩
  have hk3 := hn1.trans (hn2.trans hn3)
  clear hF2 hn2 hn3
  go_wp2_with fail
  refine (toIntSS_any _ _ _ _ (hM.keep hk3) hs' HRS.out).mono ?_
  rintro e w4 ⟨g4, rfl, hF4, hn4⟩
  go_wp2_with fail
  refine (implDet_any _ _ _ _ hF4.reads hs' HRS.out).mono ?_
  rintro e w5 ⟨rfl, hn5⟩
  have hk5 := hk3.trans (hn4.trans hn5)
  go_wp2_with fail
  refine (toIntSS_any _ _ _ _ (hM.keep hk5) hs' HRS.out).mono ?_
  rintro e w6 ⟨g6, rfl, hF6, hn6⟩
  go_wp2_with fail
  refine (eqIntSS_same _ _ _ _ _ _ _ rfl (hF4.keep (hn5.trans hn6)).reads hF6.reads hs' HRS.out).mono ?_
  rintro e w7 ⟨rfl, hn7⟩
  go_wp2_with fail
  go_ret
  exact ⟨rfl, hk5.trans (hn6.trans hn7)⟩

set_option maxRecDepth 100000 in
theorem fnExactDet_lifted (os : Os) (started : os.Started) (H : Type) (enc : TypeId × Value → H) :
    ReturnsInHanded {} Try.checked os 10 .any (Rows.fnExactDetSpec.pre6 enc Try.prog Try.f10 Rows.fnExactDetRow.domain false) (Rows.fnExactDetSpec.post enc Try.prog Try.f10 false true false false) := by
  refine returnsInHanded_of_change (C := Try.checked) own started (by kernel_rfl) Try.func10
    (ChangeSpec.witness6 (enc := enc) (C := Try.checked) false ⟨#[], #[.slice none 0 0], []⟩ 8 (by kernel_rfl) (by kernel_rfl) (by kernel_rfl) (by kernel_rfl)) ?_
  intro W base args ds gs before hval0 hW hcnd _
  have hval : ∀ (j : Nat) t v, Try.f10.params[j]? = some t → args[j]? = some v → Value.okWide Try.prog W .any base t v := hval0
  have hW' := hW
  obtain ⟨p, q, hA0, hV, rfl, hfz, hnd⟩ := hW
  have hA : DataW.TrodAll enc Try.prog W 0 (fun _ => true) true Try.f10.params.toList args.toList ds p := hA0
  have hlt : ∀ x ∈ p ++ q, x.block < W.heap.size := fun x hx => hW'.lt x hx
  rw [Try.params10] at hA hval
  obtain ⟨v0, d0, rfl, rfl, h0⟩ := trodAll_one hA
  clear hA0 hval0
  obtain ⟨A, cap, M, rfl, hM, hm, hr⟩ := open_matArg (hval 0 _ _ rfl rfl) h0
  refine (lawDet_walk A cap M W hM hm hr).mono fun e W' ⟨he, hg⟩ => ?_
  subst he
  exact ⟨_, rfl, law_post laidOut hW' rfl ⟨rfl, rfl, rfl⟩ (by kernel_rfl) rfl Try.underlying4 hg⟩

theorem fnExactDet_over : Rows.fnExactDetRow.holds Try.pinned (OpenSpec.ofChange Rows.fnExactDetSpec) :=
  OpenClaim.holds_of_wide 10 Try.f10 rfl rfl rfl rfl rfl rfl rfl ⟨rfl, rfl, rfl, rfl, rfl⟩ rfl rfl rfl rfl rfl (by kernel_rfl) Try.func10 (by kernel_rfl)
    (of_decide_eq_true (by kernel_rfl)) (by unfold Func.isWrapper; rw [if_neg (by decide +kernel)]; exact ⟨rfl, rfl⟩)
    (fun os started H enc _ => fnExactDet_lifted os started H enc)

/-- The given statement. -/
theorem fnExactDet_holds : Rows.FnExactDetSaid := fnExactDet_over

#print axioms fnExactDet_holds
end Go.Proofs.Ytmopbghngaeplaa
