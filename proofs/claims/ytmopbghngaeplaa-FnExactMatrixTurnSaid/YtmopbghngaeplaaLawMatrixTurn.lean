/- FnExactMatrixTurn: whatever the matrix is, the law returns true and leaves it as it was. No condition. -/
import Derived.Test.YtmopbghngaeplaaMarkM
namespace Go.Proofs.Ytmopbghngaeplaa
open Go.ChangeShapes Go.WideShapes Go.ChangeAt Go.RowKit Go.Deep Go.Joins
set_option linter.all false
theorem turnM_small (M : List (List Int)) : (turnM M).length ≤ 1048576 ∧ ∀ r ∈ turnM M, r.length ≤ 1048576 := by
  unfold turnM
  split
  · rename_i h
    obtain ⟨b5, _⟩ := mvB_true h
    exact ⟨by rw [sq_length]; omega, fun r hr => by rw [sq_rows hr]; omega⟩
  · exact ⟨by simp, by simp⟩
set_option maxHeartbeats 4000000 in
theorem lawMatrixTurn_walk (A : Option Addr) (cap : Nat) (M : List (List Int)) (w : World) (hM : MatAt w A M) (hm : M.length ≤ maxLen) (hr : ∀ r ∈ M, r.length ≤ maxLen) :
    Calls Try.prog 11 #[.slice A M.length cap] w fun r w' => r = .returned (.bool true) ∧ New w w' := by
  have HR := Lib.hid hr
  clear hr
  go_enter Try.func11, Try.ntmps11
  go_wp2_with fail
  refine (szIntSS_any _ _ _ _ hM hm HR.out).mono ?_
  rintro e w1 ⟨hn1, rfl | ⟨z, hz0, rfl, hz1, hs, hrs⟩⟩
  · go_wp2_with fail
    go_ret
    exact ⟨rfl, hn1⟩
  have hs' : M.length ≤ 1099511627776 := by omega
  have HRB := Lib.hid hrs
  have HRS : Hid (∀ r ∈ M, r.length ≤ 1099511627776) := fun r h => Nat.le_trans (hrs r h) (by omega)
  obtain ⟨t1, t2⟩ := turnM_small M
  have HT2 := Lib.hid t2
  have HT2' : Hid (∀ r ∈ turnM M, r.length ≤ 1099511627776) := fun r h => Nat.le_trans (t2 r h) (by omega)
  have t1' : (turnM M).length ≤ 1099511627776 := by omega
  obtain ⟨S, hS⟩ : ∃ S, turnM M = S := ⟨_, rfl⟩
  have HS := Lib.hid hS
  rw [hS] at HT2 HT2' t1 t1'
  clear hrs HR hm t2 hS
  go_wp2_with fail
  refine (toIntSS_any _ _ _ _ (hM.keep hn1) hs' HRS.out).mono ?_
  rintro e w2 ⟨g2, rfl, hF2, hn2⟩
  go_wp2_with fail
  refine (specMatrixTurn_any _ _ _ _ _ rfl hF2.reads hs' HRS.out).mono ?_
  rw [HS.out]
  rintro e w3 ⟨B0, cp0, rfl, hW, hn3⟩
  have hk3 := hn1.trans (hn2.trans hn3)
  clear hF2 hn2 hn3 hn1
  go_wp2_with fail
  refine (toIntSS_any _ _ _ _ (hM.keep hk3) hs' HRS.out).mono ?_
  rintro e w4 ⟨g4, rfl, hF4, hn4⟩
  go_wp2_with fail
  refine (implMatrixTurn_any _ _ _ _ hF4.reads hs' HRS.out).mono ?_
  rw [HS.out]
  rintro e w5 ⟨B1, cp1, rfl, hF5, hn5⟩
  have hX := hF4.in_.keep hn5
  have hG := hF5.in_
  have hz4 := hn4.size
  have hz5 := hn5.size
  clear hF4 hF5
  have hk5 : New w3 w5 := hn4.trans hn5
  go_wp2_with fail
  refine (eqIntSS_same _ _ _ _ _ _ _ rfl hG.reads (hW.keep hk5) t1' HT2'.out).mono ?_
  rintro e w6 ⟨rfl, hn6⟩
  go_wp2_with fail
  refine (toIntSS_any _ _ _ _ (hM.keep (hk3.trans (hk5.trans hn6))) hs' HRS.out).mono ?_
  rintro e w7 ⟨g7, rfl, hF7, hn7⟩
  go_wp2_with fail
  refine (eqIntSS_same _ _ _ _ _ _ _ rfl (hX.keep (hn6.trans hn7)).reads hF7.reads hs' HRS.out).mono ?_
  rintro e w8 ⟨rfl, hn8⟩
  have hk8 := hn6.trans (hn7.trans hn8)
  clear hF7 hn6 hn7 hn8
  have hz8 := hk8.size
  go_wp2_with fail
  refine (markIntSS_any _ _ _ _ _ _ _ rfl (hX.keep hk8) hs HRB.out).mono ?_
  rintro e w9 ⟨rfl, hm9, -⟩
  have hz9 := hm9.size
  have hk9 : New w3 w9 := New.mid (hk5.trans hk8) hm9 (Nat.le_refl _) (by omega)
  have hG9 := (hG.keep hk8).mid hm9 (.inr (Nat.le_refl _))
  have hneg1 : ¬ (1 + (tot M M.length : Int)) < 0 := by omega
  clear hX hG
  go_wp2_with fail
  refine (eqIntSS_same _ _ _ _ _ _ _ rfl hG9.reads (hW.keep hk9) t1' HT2'.out).mono ?_
  rintro e w10 ⟨rfl, hn10⟩
  have hk10 := hk9.trans hn10
  have hz10 := hn10.size
  go_wp2_with fail
  refine (markIntSS_any _ _ _ _ _ _ _ rfl (hG9.keep hn10) t1 HT2.out).mono ?_
  rintro e w11 ⟨rfl, hm11, hG11⟩
  have hk11 : New w3 w11 := New.mid hk10 hm11 (by omega) (by omega)
  have hneg2 : ¬ (1 + (tot S S.length : Int)) < 0 := by omega
  clear hG9 hn10 hk10 hk9
  go_wp2_with fail
  refine (heldIntSS_any _ _ _ _ _ rfl hG11.reads t1 HT2.out).mono ?_
  rintro e w12 ⟨rfl, hn12⟩
  have hk12 := hk11.trans hn12
  go_wp2_with fail
  refine (toIntSS_any _ _ _ _ (hM.keep (hk3.trans hk12)) hs' HRS.out).mono ?_
  rintro e w13 ⟨g13, rfl, hF13, hn13⟩
  go_wp2_with fail
  refine (implMatrixTurn_any _ _ _ _ hF13.reads hs' HRS.out).mono ?_
  rw [HS.out]
  rintro e w14 ⟨B2, cp2, rfl, hF14, hn14⟩
  have hk14 : New w12 w14 := hn13.trans hn14
  clear hF13 hn13 hn14
  go_wp2_with fail
  refine (eqIntSS_same _ _ _ _ _ _ _ rfl hF14.reads (hW.keep (hk12.trans hk14)) t1' HT2'.out).mono ?_
  rintro e w15 ⟨rfl, hn15⟩
  have hk15 := hk14.trans hn15
  go_wp2_with fail
  refine (heldIntSS_any _ _ _ _ _ rfl (hG11.keep (hn12.trans hk15)).reads t1 HT2.out).mono ?_
  rintro e w16 ⟨rfl, hn16⟩
  go_wp2_with fail
  go_ret
  exact ⟨rfl, hk3.trans (hk12.trans (hk15.trans hn16))⟩

set_option maxRecDepth 100000 in
theorem fnExactMatrixTurn_lifted (os : Os) (started : os.Started) (H : Type) (enc : TypeId × Value → H) :
    ReturnsInHanded {} Try.checked os 11 .any (Rows.fnExactMatrixTurnSpec.pre6 enc Try.prog Try.f11 Rows.fnExactMatrixTurnRow.domain false) (Rows.fnExactMatrixTurnSpec.post enc Try.prog Try.f11 false true false false) := by
  refine returnsInHanded_of_change (C := Try.checked) own started (by kernel_rfl) Try.func11
    (ChangeSpec.witness6 (enc := enc) (C := Try.checked) false ⟨#[], #[.slice none 0 0], []⟩ 8 (by kernel_rfl) (by kernel_rfl) (by kernel_rfl) (by kernel_rfl)) ?_
  intro W base args ds gs before hval0 hW hcnd _
  have hval : ∀ (j : Nat) t v, Try.f11.params[j]? = some t → args[j]? = some v → Value.okWide Try.prog W .any base t v := hval0
  have hW' := hW
  obtain ⟨p, q, hA0, hV, rfl, hfz, hnd⟩ := hW
  have hA : DataW.TrodAll enc Try.prog W 0 (fun _ => true) true Try.f11.params.toList args.toList ds p := hA0
  have hlt : ∀ x ∈ p ++ q, x.block < W.heap.size := fun x hx => hW'.lt x hx
  rw [Try.params11] at hA hval
  obtain ⟨v0, d0, rfl, rfl, h0⟩ := trodAll_one hA
  clear hA0 hval0
  obtain ⟨A, cap, M, rfl, hM, hm, hr⟩ := open_matArg (hval 0 _ _ rfl rfl) h0
  refine (lawMatrixTurn_walk A cap M W hM hm hr).mono fun e W' ⟨he, hg⟩ => ?_
  subst he
  exact ⟨_, rfl, law_post laidOut hW' rfl ⟨rfl, rfl, rfl⟩ (by kernel_rfl) rfl Try.underlying4 hg⟩

theorem fnExactMatrixTurn_over : Rows.fnExactMatrixTurnRow.holds Try.pinned (OpenSpec.ofChange Rows.fnExactMatrixTurnSpec) :=
  OpenClaim.holds_of_wide 11 Try.f11 rfl rfl rfl rfl rfl rfl rfl ⟨rfl, rfl, rfl, rfl, rfl⟩ rfl rfl rfl rfl rfl (by kernel_rfl) Try.func11 (by kernel_rfl)
    (of_decide_eq_true (by kernel_rfl)) (by unfold Func.isWrapper; rw [if_neg (by decide +kernel)]; exact ⟨rfl, rfl⟩)
    (fun os started H enc _ => fnExactMatrixTurn_lifted os started H enc)

/-- The given statement. -/
theorem fnExactMatrixTurn_holds : Rows.FnExactMatrixTurnSaid := fnExactMatrixTurn_over

#print axioms fnExactMatrixTurn_holds
end Go.Proofs.Ytmopbghngaeplaa
