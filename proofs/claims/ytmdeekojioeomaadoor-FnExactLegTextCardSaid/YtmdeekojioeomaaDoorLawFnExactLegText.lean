/- FnExactLegText: whatever the leg is, the law returns true and leaves it as it was. No condition. -/
import Derived.Test.YtmdeekojioeomaaDoorNum
import Derived.Test.YtmdeekojioeomaaDoorDoor
namespace Go.Proofs.YtmdeekojioeomaaDoor
open Go.ChangeShapes Go.WideShapes Go.ChangeAt Go.RowKit Go.Deep Go.Joins
set_option linter.all false
set_option maxHeartbeats 1000000 in
set_option maxRecDepth 100000 in
theorem lawFnExactLegText_walk (f t e n u : Int) (w : World) (ht : Tab w) : Calls Tryd.prog 6 #[.agg #[.int .i64 f, .int .i64 t, .int .i64 e, .int .i64 n, .int .i64 u]] w
    fun r w' => r = .returned (.bool true) ∧ New w w' := by
  have h1 : New w (w.alloc (Obj.cells #[.int .i64 f, .int .i64 t, .int .i64 e, .int .i64 n, .int .i64 u] 35)) := (by repeat (first | with_reducible exact New.refl _ | with_reducible assumption | with_reducible refine New.alloc ?_ _ | with_reducible refine New.drewN ?_ _ | with_reducible refine New.drew ?_ | with_reducible refine New.setCell ?_ (by first | omega | (simp; done) | (simp; omega)) _ | with_reducible refine New.tail (by assumption) ?_))
  have h2 := Has.new w #[.int .i64 f, .int .i64 t, .int .i64 e, .int .i64 n, .int .i64 u] 35
  have HT := Lib.hid (ht.keep h1)
  have H1 := fun w => specLegText_any f t e n u w
  have H2 := fun w (h : Tab w) => implLegText_any f t e n u w h
  obtain ⟨X, hX⟩ : ∃ X, ltx f t e n u = X := ⟨_, rfl⟩
  rw [hX] at H1 H2
  clear ht hX
  go_enter Tryd.func6, Tryd.ntmps6
  go_upto_region 1 with fail
  generalize (w.alloc (Obj.cells #[.int .i64 f, .int .i64 t, .int .i64 e, .int .i64 n, .int .i64 u] 35)) = W0 at *
  have c2 := h2.cells5
  clear h2
  go_wp2_with fail
  refine (toLeg_any _ _ _ _ _ _).mono ?_
  rintro _ w1 ⟨rfl, hn1⟩
  go_wp2_with fail
  refine (H1 _).mono ?_
  rintro _ w2 ⟨rfl, hn2⟩
  have hk2 := hn1.trans hn2
  have c3 := fun w' (hn : New w2 w') => c2 w' (hk2.trans hn)
  clear c2 hn1 hn2
  go_wp2_with fail
  refine (toLeg_any _ _ _ _ _ _).mono ?_
  rintro _ w3 ⟨rfl, hn3⟩
  have hk3 := hk2.trans hn3
  go_wp2_with fail
  refine (H2 _ (HT.out.keep hk3)).mono ?_
  rintro _ w4 ⟨rfl, hn4⟩
  go_wp2_with fail
  go_ret
  exact ⟨rfl, h1.trans (hk3.trans hn4)⟩

set_option maxRecDepth 100000 in
theorem fnExactLegText_lifted (os : Os) (started : os.Started) (H : Type) (enc : TypeId × Value → H) :
    ReturnsInHanded {} Tryd.checked os 6 .any (fun w args => (Rows.fnExactLegTextSpec.pre enc Tryd.prog Tryd.f6 [] false w args ∧ laidMetH Tryd.prog laidL w) ∧ sizedMet enc Tryd.prog Tryd.f6 (OpenSpec.ofChange Rows.fnExactLegTextSpec) false w args)
      (Rows.fnExactLegTextSpec.post enc Tryd.prog Tryd.f6 false true false false) := by
  refine returnsInHanded_of_change_and (C := Tryd.checked) (X := fun w _ => laidMetH Tryd.prog laidL w) (fun _ _ _ hh h => h.of_heap hh) own started (by kernel_rfl) Tryd.func6
    (ChangeSpec.witness_shaped (enc := enc) (C := Tryd.checked) (os := os) (X := fun w _ => laidMetH Tryd.prog laidL w) false (World.doorLaid Tryd.prog 400 os) #[.agg #[.int .i64 0, .int .i64 0, .int .i64 0, .int .i64 0, .int .i64 0]] 8 rfl (World.shaped_of_RefB (by kernel_rfl) (by kernel_rfl)) (by kernel_rfl) (by kernel_rfl) (by kernel_rfl) (laidL_met os _)) ?_
  intro W base args ds gs before hval0 hW _ _ hL _
  have hval : ∀ (j : Nat) t v, Tryd.f6.params[j]? = some t → args[j]? = some v → Value.okWide Tryd.prog W .any base t v := hval0
  have hW' := hW
  obtain ⟨p, q, hA0, hV, rfl, hfz, hnd⟩ := hW
  have hA : DataW.TrodAll enc Tryd.prog W 0 (fun _ => true) true Tryd.f6.params.toList args.toList ds p := hA0
  have hlt : ∀ x ∈ p ++ q, x.block < W.heap.size := fun x hx => hW'.lt x hx
  rw [Tryd.params6] at hA hval
  obtain ⟨v0, d0, rfl, rfl, h0⟩ := trodAll_one hA
  clear hA0 hval0
  have hL : laidMetH Tryd.prog laidL W := hL
  obtain ⟨f, t, e, n, u, rfl⟩ := open_ints5 Tryd.underlying35 (by kernel_rfl) (by kernel_rfl) Tryd.underlying3 Tryd.underlying3 Tryd.underlying3 Tryd.underlying3 Tryd.underlying3 (hval 0 _ _ rfl rfl) h0
  refine (lawFnExactLegText_walk f t e n u W (tab_of_laid hL)).mono fun e W' ⟨he, hg⟩ => ?_
  subst he
  exact ⟨_, rfl, law_post laidOut hW' rfl ⟨rfl, rfl, rfl⟩ (by kernel_rfl) rfl Tryd.underlying4 hg⟩

theorem fnExactLegText_over : Rows.fnExactLegTextRow.holds Tryd.pinned (OpenSpec.ofChange Rows.fnExactLegTextSpec) :=
  OpenClaim.holds_of_wide 6 Tryd.f6 rfl rfl rfl rfl rfl rfl rfl ⟨rfl, rfl, rfl, rfl, rfl⟩ rfl rfl rfl rfl rfl (by kernel_rfl) Tryd.func6 (by kernel_rfl)
    (of_decide_eq_true (by kernel_rfl)) (by unfold Func.isWrapper; first | (rw [if_pos (by decide +kernel)]; kernel_rfl) | (rw [if_neg (by decide +kernel)]; exact ⟨rfl, rfl⟩))
    (fun os started H enc _ => fnExactLegText_lifted os started H enc)

/-- The given statement. -/
theorem fnExactLegText_holds : Rows.FnExactLegTextCardSaid :=
  Claim7.holds_tied_plain_at .later [] [.data, .data, .data] true Rows.fnExactLegTextCard.stood.harness Rows.fnExactLegTextCard.stood.looks
    fnExactLegText_over (fun _ h => by cases h) (by kernel_rfl) (fun _ h => by cases h) fnExactLegText_row_tie rfl ⟨rfl, rfl⟩ (by kernel_rfl) rfl
    (fun f fn hf hfn => by
      obtain rfl : f = 6 := Option.some.inj ((show Tryd.prog.funcNamed "loop.example/cavesurvey/laws.FnExactLegText" = some 6 by kernel_rfl).symm.trans hf) |>.symm
      obtain rfl : fn = Tryd.f6 := (Option.some.inj (Tryd.func6.symm.trans hfn)).symm
      exact ⟨by kernel_rfl, fun j t ht => by
        rw [Tryd.params6] at ht
        have hm : t ∈ Tryd.f6.params.toList := by rw [Tryd.params6]; simpa using Array.mem_of_getElem? ht
        have hall : (Tryd.f6.params.toList.all fun u => !Tryd.prog.wantsStandIn u) = true := by kernel_rfl
        exact (show Tryd.prog.wantsStandIn t = false by simpa using List.all_eq_true.1 hall t hm)⟩)
    (by kernel_rfl)

#print axioms fnExactLegText_holds
end Go.Proofs.YtmdeekojioeomaaDoor
