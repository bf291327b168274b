/- FnExactConstants: the law returns true. No condition. -/
import Derived.Test.YtmopbghngaeplaaFrame
namespace Go.Proofs.Ytmopbghngaeplaa
open Go.ChangeShapes Go.WideShapes Go.ChangeAt Go.RowKit Go.Deep Go.Joins
set_option linter.all false
theorem lawConstants_walk (w : World) : Calls Try.prog 3 #[] w fun r w' => r = .returned (.bool true) ∧ New w w' := by
  go_enter Try.func3, Try.ntmps3
  go_wp2
  go_ret
  exact ⟨rfl, (by repeat (first | with_reducible exact New.refl _ | with_reducible assumption | with_reducible refine New.alloc ?_ _ | with_reducible refine New.drewN ?_ _ | with_reducible refine New.drew ?_ | with_reducible refine New.setCell ?_ (by first | omega | (simp; done) | (simp; omega)) _ | with_reducible refine New.tail (by assumption) ?_))⟩

set_option maxRecDepth 100000 in
theorem fnExactConstants_lifted (os : Os) (started : os.Started) (H : Type) (enc : TypeId × Value → H) :
    ReturnsInHanded {} Try.checked os 3 .any (Rows.fnExactConstantsSpec.pre6 enc Try.prog Try.f3 Rows.fnExactConstantsRow.domain false) (Rows.fnExactConstantsSpec.post enc Try.prog Try.f3 false true false false) := by
  refine returnsInHanded_of_change (C := Try.checked) own started (by kernel_rfl) Try.func3
    (ChangeSpec.witness6 (enc := enc) (C := Try.checked) false ⟨#[], #[], []⟩ 8 (by kernel_rfl) (by kernel_rfl) (by kernel_rfl) (by kernel_rfl)) ?_
  intro W base args ds gs before hval0 hW hcnd _
  have hval : ∀ (j : Nat) t v, Try.f3.params[j]? = some t → args[j]? = some v → Value.okWide Try.prog W .any base t v := hval0
  have hW' := hW
  obtain ⟨p, q, hA0, hV, rfl, hfz, hnd⟩ := hW
  have hA : DataW.TrodAll enc Try.prog W 0 (fun _ => true) true Try.f3.params.toList args.toList ds p := hA0
  have hlt : ∀ x ∈ p ++ q, x.block < W.heap.size := fun x hx => hW'.lt x hx
  rw [Try.params3] at hA hval
  obtain ⟨rfl, rfl, rfl⟩ := trodAll_none hA
  clear hA0 hval0

  refine (lawConstants_walk W).mono fun e W' ⟨he, hg⟩ => ?_
  subst he
  exact ⟨_, rfl, law_post laidOut hW' rfl ⟨rfl, rfl, rfl⟩ (by kernel_rfl) rfl Try.underlying4 hg⟩

theorem fnExactConstants_over : Rows.fnExactConstantsRow.holds Try.pinned (OpenSpec.ofChange Rows.fnExactConstantsSpec) :=
  OpenClaim.holds_of_wide 3 Try.f3 rfl rfl rfl rfl rfl rfl rfl ⟨rfl, rfl, rfl, rfl, rfl⟩ rfl rfl rfl rfl rfl (by kernel_rfl) Try.func3 (by kernel_rfl)
    (of_decide_eq_true (by kernel_rfl)) (by unfold Func.isWrapper; rw [if_neg (by decide +kernel)]; exact ⟨rfl, rfl⟩)
    (fun os started H enc _ => fnExactConstants_lifted os started H enc)

/-- The given statement. -/
theorem fnExactConstants_holds : Rows.FnExactConstantsSaid := fnExactConstants_over

#print axioms fnExactConstants_holds
end Go.Proofs.Ytmopbghngaeplaa
