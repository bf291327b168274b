/- FnExactLegBack: whatever the leg is, the law returns true and leaves it as it was. No condition. -/
import Derived.Test.YtmopbghngaeplaaLeg
import Derived.Test.YtmopbghngaeplaaFrame
namespace Go.Proofs.Ytmopbghngaeplaa
open Go.ChangeShapes Go.WideShapes Go.ChangeAt Go.RowKit Go.Deep Go.Joins
set_option linter.all false
set_option maxHeartbeats 1000000 in
theorem lawLegBack_walk (f t e n u : Int) (w : World) : Calls Try.prog 6 #[.agg #[.int .i64 f, .int .i64 t, .int .i64 e, .int .i64 n, .int .i64 u]] w
    fun r w' => r = .returned (.bool true) ∧ New w w' := by
  have h1 : New w (w.alloc (Obj.cells #[.int .i64 f, .int .i64 t, .int .i64 e, .int .i64 n, .int .i64 u] 33)) := (by repeat (first | with_reducible exact New.refl _ | with_reducible assumption | with_reducible refine New.alloc ?_ _ | with_reducible refine New.drewN ?_ _ | with_reducible refine New.drew ?_ | with_reducible refine New.setCell ?_ (by first | omega | (simp; done) | (simp; omega)) _ | with_reducible refine New.tail (by assumption) ?_))
  have h2 := Has.new w #[.int .i64 f, .int .i64 t, .int .i64 e, .int .i64 n, .int .i64 u] 33
  go_enter Try.func6, Try.ntmps6
  go_upto_region 1 with fail
  generalize (w.alloc (Obj.cells #[.int .i64 f, .int .i64 t, .int .i64 e, .int .i64 n, .int .i64 u] 33)) = W0 at *
  have c2 := h2.cells5
  go_cut [3] (fun s5 wx => ∃ g, s5 = .pointer (some ⟨g, 0, none⟩) ∧ Has wx g #[.int .i64 t, .int .i64 f, .int .i64 (ng e), .int .i64 (ng n), .int .i64 (ng u)] 34 ∧ New W0 wx)
  case first =>
    clear h2
    go_wp2_with (first | (go_at_call 22; refine (toLeg_any _ _ _ _ _ _).mono ?_; rintro e w1 ⟨rfl, hn⟩; have hk : New W0 w1 := New.tail hn (by repeat (first | with_reducible exact New.refl _ | with_reducible assumption | with_reducible refine New.alloc ?_ _ | with_reducible refine New.drewN ?_ _ | with_reducible refine New.drew ?_ | with_reducible refine New.setCell ?_ (by first | omega | (simp; done) | (simp; omega)) _ | with_reducible refine New.tail (by assumption) ?_))) | (go_at_call 21; refine (specLegBack_any _ _ _ _ _ _).mono ?_; rintro e w1 ⟨rfl, hn⟩; have hk : New W0 w1 := New.tail hn (by repeat (first | with_reducible exact New.refl _ | with_reducible assumption | with_reducible refine New.alloc ?_ _ | with_reducible refine New.drewN ?_ _ | with_reducible refine New.drew ?_ | with_reducible refine New.setCell ?_ (by first | omega | (simp; done) | (simp; omega)) _ | with_reducible refine New.tail (by assumption) ?_))))
    all_goals (go_meet; exact ⟨_, rfl, (by repeat (first | with_reducible exact Has.new _ _ _ | with_reducible assumption | with_reducible refine Has.drew ?_ | with_reducible refine Has.drewN ?_ _ | with_reducible apply Has.set1 | with_reducible apply Has.set2 | with_reducible apply Has.set3 | with_reducible apply Has.set5 | with_reducible refine Has.keep ?_ (by assumption))), (by repeat (first | with_reducible exact New.refl _ | with_reducible assumption | with_reducible refine New.alloc ?_ _ | with_reducible refine New.drewN ?_ _ | with_reducible refine New.drew ?_ | with_reducible refine New.setCell ?_ (by first | omega | (simp; done) | (simp; omega)) _ | with_reducible refine New.tail (by assumption) ?_))⟩)
  case rest =>
    obtain ⟨g, rfl, hg, hw⟩ := hcut
    have h2' := h2.keep hw
    have h1' := h1.trans hw
    clear h1 h2 c2 hw
    have c2 := h2'.cells5
    go_upto_region 2 with fail
    go_cut [4] (fun s6 wx => ∃ g, s6 = .pointer (some ⟨g, 0, none⟩) ∧ Has wx g #[.int .i64 t, .int .i64 f, .int .i64 (ng e), .int .i64 (ng n), .int .i64 (ng u)] 34 ∧ New wc wx)
    case first =>
      clear hg h2'
      go_wp2_with (first | (go_at_call 22; refine (toLeg_any _ _ _ _ _ _).mono ?_; rintro e w1 ⟨rfl, hn⟩; have hk : New wc w1 := New.tail hn (by repeat (first | with_reducible exact New.refl _ | with_reducible assumption | with_reducible refine New.alloc ?_ _ | with_reducible refine New.drewN ?_ _ | with_reducible refine New.drew ?_ | with_reducible refine New.setCell ?_ (by first | omega | (simp; done) | (simp; omega)) _ | with_reducible refine New.tail (by assumption) ?_))) | (go_at_call 23; refine (implLegBack_any _ _ _ _ _ _).mono ?_; rintro e w1 ⟨rfl, hn⟩; have hk : New wc w1 := New.tail hn (by repeat (first | with_reducible exact New.refl _ | with_reducible assumption | with_reducible refine New.alloc ?_ _ | with_reducible refine New.drewN ?_ _ | with_reducible refine New.drew ?_ | with_reducible refine New.setCell ?_ (by first | omega | (simp; done) | (simp; omega)) _ | with_reducible refine New.tail (by assumption) ?_))))
      all_goals (go_meet; exact ⟨_, rfl, (by repeat (first | with_reducible exact Has.new _ _ _ | with_reducible assumption | with_reducible refine Has.drew ?_ | with_reducible refine Has.drewN ?_ _ | with_reducible apply Has.set1 | with_reducible apply Has.set2 | with_reducible apply Has.set3 | with_reducible apply Has.set5 | with_reducible refine Has.keep ?_ (by assumption))), (by repeat (first | with_reducible exact New.refl _ | with_reducible assumption | with_reducible refine New.alloc ?_ _ | with_reducible refine New.drewN ?_ _ | with_reducible refine New.drew ?_ | with_reducible refine New.setCell ?_ (by first | omega | (simp; done) | (simp; omega)) _ | with_reducible refine New.tail (by assumption) ?_))⟩)
    case rest =>
      obtain ⟨g', rfl, hg', hw'⟩ := hcut
      have hg2 := hg.keep hw'
      have k1 := hg2.cells5 _ (New.refl _)
      have k2 := hg'.cells5 _ (New.refl _)
      clear c2 h2' hg hg' hg2
      go_wp2_with (go_at_call 24; refine (eqLeg_refl _ _ _ _ _ _).mono ?_; rintro e w1 ⟨rfl, hn⟩)
      go_ret
      exact ⟨rfl, h1'.trans (hw'.trans hn)⟩

set_option maxRecDepth 100000 in
theorem fnExactLegBack_lifted (os : Os) (started : os.Started) (H : Type) (enc : TypeId × Value → H) :
    ReturnsInHanded {} Try.checked os 6 .any (Rows.fnExactLegBackSpec.pre6 enc Try.prog Try.f6 Rows.fnExactLegBackRow.domain false) (Rows.fnExactLegBackSpec.post enc Try.prog Try.f6 false true false false) := by
  refine returnsInHanded_of_change (C := Try.checked) own started (by kernel_rfl) Try.func6
    (ChangeSpec.witness6 (enc := enc) (C := Try.checked) false ⟨#[], #[.agg #[.int .i64 0, .int .i64 0, .int .i64 0, .int .i64 0, .int .i64 0]], []⟩ 8 (by kernel_rfl) (by kernel_rfl) (by kernel_rfl) (by kernel_rfl)) ?_
  intro W base args ds gs before hval0 hW hcnd _
  have hval : ∀ (j : Nat) t v, Try.f6.params[j]? = some t → args[j]? = some v → Value.okWide Try.prog W .any base t v := hval0
  have hW' := hW
  obtain ⟨p, q, hA0, hV, rfl, hfz, hnd⟩ := hW
  have hA : DataW.TrodAll enc Try.prog W 0 (fun _ => true) true Try.f6.params.toList args.toList ds p := hA0
  have hlt : ∀ x ∈ p ++ q, x.block < W.heap.size := fun x hx => hW'.lt x hx
  rw [Try.params6] at hA hval
  obtain ⟨v0, d0, rfl, rfl, h0⟩ := trodAll_one hA
  clear hA0 hval0
  obtain ⟨f, t, e, n, u, rfl⟩ := open_ints5 Try.underlying33 (by kernel_rfl) (by kernel_rfl) Try.underlying3 Try.underlying3 Try.underlying3 Try.underlying3 Try.underlying3 (hval 0 _ _ rfl rfl) h0
  refine (lawLegBack_walk f t e n u W).mono fun e W' ⟨he, hg⟩ => ?_
  subst he
  exact ⟨_, rfl, law_post laidOut hW' rfl ⟨rfl, rfl, rfl⟩ (by kernel_rfl) rfl Try.underlying4 hg⟩

theorem fnExactLegBack_over : Rows.fnExactLegBackRow.holds Try.pinned (OpenSpec.ofChange Rows.fnExactLegBackSpec) :=
  OpenClaim.holds_of_wide 6 Try.f6 rfl rfl rfl rfl rfl rfl rfl ⟨rfl, rfl, rfl, rfl, rfl⟩ rfl rfl rfl rfl rfl (by kernel_rfl) Try.func6 (by kernel_rfl)
    (of_decide_eq_true (by kernel_rfl)) (by unfold Func.isWrapper; rw [if_neg (by decide +kernel)]; exact ⟨rfl, rfl⟩)
    (fun os started H enc _ => fnExactLegBack_lifted os started H enc)

/-- The given statement. -/
theorem fnExactLegBack_holds : Rows.FnExactLegBackSaid := fnExactLegBack_over

#print axioms fnExactLegBack_holds
end Go.Proofs.Ytmopbghngaeplaa
