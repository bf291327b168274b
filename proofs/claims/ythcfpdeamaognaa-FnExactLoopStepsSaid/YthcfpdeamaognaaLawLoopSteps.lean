/- FnExactLoopSteps: whatever the survey and the index are, the law returns true and leaves its arguments as they were. No condition. -/
import Derived.Test.YthcfpdeamaognaaLoop
import Derived.Test.YthcfpdeamaognaaMarkS
namespace Go.Proofs.Ythcfpdeamaognaa
open Go.ChangeShapes Go.WideShapes Go.ChangeAt Go.RowKit Go.Deep Go.Joins
set_option linter.all false
set_option maxRecDepth 100000 in
set_option maxHeartbeats 4000000 in
theorem lawLoopSteps_walk (st f : Int) (A : Option Addr) (cap : Nat) (L : List Lg) (w : World) (hL : LegsAt w A L) (hm : L.length ≤ maxLen) : Calls Try.prog 10 #[.agg #[.int .i64 st, .slice A L.length cap], .int .i64 f] w
    fun r w' => r = .returned (.bool true) ∧ New w w' := by
  have h1 : New w (w.alloc (Obj.cells #[.int .i64 st, .slice A L.length cap] 24)) := (by repeat (first | with_reducible exact New.refl _ | with_reducible assumption | with_reducible refine New.alloc ?_ _ | with_reducible refine New.drewN ?_ _ | with_reducible refine New.drew ?_ | with_reducible refine New.setCell ?_ (by first | omega | (simp; done) | (simp; omega)) _ | with_reducible refine New.tail (by assumption) ?_))
  have h2 := Has.new w #[.int .i64 st, .slice A L.length cap] 24
  have hL' := hL.keep h1
  by_cases hbig : (1048576 : Int) < (L.length : Int)
  · go_enter Try.func10, Try.ntmps10
    go_wp2_with (go_at_call 15; refine (szSurvey_any _ _ _ _ _ hm).mono ?_; rw [if_pos hbig]; rintro e w1 ⟨rfl, hn⟩)
    go_ret
    exact ⟨rfl, h1.trans hn⟩
  · have hm' : L.length ≤ 1099511627776 := by omega
    have hneg : ¬ (1048576 : Int) - (L.length : Int) < 0 := by omega
    have hSl := lsS_len st L f
    obtain ⟨S, hS⟩ : ∃ S, lsS st L f = S := ⟨_, rfl⟩
    obtain ⟨bw, hbw⟩ : ∃ b, lsOk st L f = b := ⟨_, rfl⟩
    rw [hS] at hSl
    have HS := Lib.hid hS
    have HB := Lib.hid hbw
    have hbb : (bw != bw) = false := by simp
    clear hS hbw
    go_enter Try.func10, Try.ntmps10
    go_upto_region 2 with fail
    generalize (w.alloc (Obj.cells #[.int .i64 st, .slice A L.length cap] 24)) = W0 at *
    have c2 := h2.cells2
    clear h2
    go_upto_region 6 with (first | (go_at_call 15; refine (szSurvey_any _ _ _ _ _ hm).mono ?_; rw [if_neg hbig]; rintro e w1 ⟨rfl, hn⟩; have hk : New W0 w1 := New.tail hn (by repeat (first | with_reducible exact New.refl _ | with_reducible assumption | with_reducible refine New.alloc ?_ _ | with_reducible refine New.drewN ?_ _ | with_reducible refine New.drew ?_ | with_reducible refine New.setCell ?_ (by first | omega | (simp; done) | (simp; omega)) _ | with_reducible refine New.tail (by assumption) ?_))) | (go_at_call 17; refine (toSurvey_any _ _ _ _ _ (hL'.keep (by repeat (first | with_reducible exact New.refl _ | with_reducible assumption | with_reducible refine New.alloc ?_ _ | with_reducible refine New.drewN ?_ _ | with_reducible refine New.drew ?_ | with_reducible refine New.setCell ?_ (by first | omega | (simp; done) | (simp; omega)) _ | with_reducible refine New.tail (by assumption) ?_))) hm').mono ?_; rintro e w1 ⟨g, rfl, hg, hb, hn⟩; have hk : New W0 w1 := New.tail hn (by repeat (first | with_reducible exact New.refl _ | with_reducible assumption | with_reducible refine New.alloc ?_ _ | with_reducible refine New.drewN ?_ _ | with_reducible refine New.drew ?_ | with_reducible refine New.setCell ?_ (by first | omega | (simp; done) | (simp; omega)) _ | with_reducible refine New.tail (by assumption) ?_))) | (go_at_call 42; refine (specLoopSteps_any _ _ _ _ _ _ (LegBlk.reads (by assumption)) hm').mono ?_; rw [HS.out, HB.out]; rintro e w3 ⟨B0, cp0, rfl, hF0, hn3⟩; have hk3 : New W0 w3 := New.tail hn3 (by repeat (first | with_reducible exact New.refl _ | with_reducible assumption | with_reducible refine New.alloc ?_ _ | with_reducible refine New.drewN ?_ _ | with_reducible refine New.drew ?_ | with_reducible refine New.setCell ?_ (by first | omega | (simp; done) | (simp; omega)) _ | with_reducible refine New.tail (by assumption) ?_))))
    have hR0 := hF0.reads
    have c3 := fun w' (hn : New w3 w') => c2 w' (hk3.trans hn)
    have hL3 := hL'.keep hk3
    have h13 := h1.trans hk3
    clear hF0 hn3 hb hL hL' c2 h1
    go_cut [8] (fun s5 wx => ∃ g5 g, s5 = .pointer (some ⟨g5, 0, none⟩) ∧ Has wx g5 #[.int .i64 st, .slice (some ⟨g, 0, none⟩) L.length L.length] 29 ∧ LegBlk wx g L ∧ New w3 wx ∧ w3.heap.size ≤ g ∧ g5 ≠ g)
    case first =>
      go_wp2_with (go_at_call 17; refine (toSurvey_any _ _ _ _ _ (hL3.keep (by repeat (first | with_reducible exact New.refl _ | with_reducible assumption | with_reducible refine New.alloc ?_ _ | with_reducible refine New.drewN ?_ _ | with_reducible refine New.drew ?_ | with_reducible refine New.setCell ?_ (by first | omega | (simp; done) | (simp; omega)) _ | with_reducible refine New.tail (by assumption) ?_))) hm').mono ?_; rintro e w4 ⟨g, rfl, hg, hb, hn⟩)
      go_meet
      have hlt := hb.lt
      exact ⟨_, _, rfl, (by repeat (first | with_reducible exact Has.new _ _ _ | with_reducible assumption | with_reducible refine Has.drew ?_ | with_reducible refine Has.drewN ?_ _ | with_reducible apply Has.set1 | with_reducible apply Has.set2 | with_reducible apply Has.set3 | with_reducible apply Has.set5 | with_reducible refine Has.keep ?_ (by assumption))), hb.keep (by repeat (first | with_reducible exact New.refl _ | with_reducible assumption | with_reducible refine New.alloc ?_ _ | with_reducible refine New.drewN ?_ _ | with_reducible refine New.drew ?_ | with_reducible refine New.setCell ?_ (by first | omega | (simp; done) | (simp; omega)) _ | with_reducible refine New.tail (by assumption) ?_)), (by repeat (first | with_reducible exact New.refl _ | with_reducible assumption | with_reducible refine New.alloc ?_ _ | with_reducible refine New.drewN ?_ _ | with_reducible refine New.drew ?_ | with_reducible refine New.setCell ?_ (by first | omega | (simp; done) | (simp; omega)) _ | with_reducible refine New.tail (by assumption) ?_)), hg, by omega⟩
    case rest =>
      obtain ⟨g5, gx, rfl, hg5, hgb, hwc, hgx, hne⟩ := hcut
      have hgl := hgb.lt
      have c5 := hg5.cells2
      go_wp2_with fail
      refine (implLoopSteps_any _ _ _ _ _ _ hgb.reads hm').mono ?_
      rw [HS.out, HB.out]
      rintro e w5 ⟨B1, cp1, rfl, hF1, hn5⟩
      go_wp2_with fail
      refine (eqStepS_same _ _ _ _ _ _ _ rfl hF1.reads (hR0.keep (hwc.trans hn5)) (by omega)).mono ?_
      rintro e w6 ⟨rfl, hn6⟩
      go_wp2_with fail
      have hF6 := hF1.keep hn6
      have hk6 := hn5.trans hn6
      clear hF1 hn5 hn6
      have c3' := fun w' (hn : New w6 w') => c3 w' ((hwc.trans hk6).trans hn)
      have c5' := fun w' (hn : New w6 w') => c5 w' (hk6.trans hn)
      have hL6 := hL3.keep (hwc.trans hk6)
      have hg6 := hgb.keep hk6
      go_region_held3 (fun w' => New w6 w') ((repeat (first | with_reducible exact New.refl _ | with_reducible assumption | with_reducible refine New.alloc ?_ _ | with_reducible refine New.drewN ?_ _ | with_reducible refine New.drew ?_ | with_reducible refine New.setCell ?_ (by first | omega | (simp; done) | (simp; omega)) _ | with_reducible refine New.tail (by assumption) ?_))) (first | (go_at_call 17; refine (toSurvey_any _ _ _ _ _ (hL6.keep (by repeat (first | with_reducible exact New.refl _ | with_reducible assumption | with_reducible refine New.alloc ?_ _ | with_reducible refine New.drewN ?_ _ | with_reducible refine New.drew ?_ | with_reducible refine New.setCell ?_ (by first | omega | (simp; done) | (simp; omega)) _ | with_reducible refine New.tail (by assumption) ?_))) hm').mono ?_; rintro e w7 ⟨g', rfl, hg, hb, hn7⟩) | (go_at_call 19; refine (eqSurvey_same _ _ _ _ _ _ _ (hg6.reads.keep (by repeat (first | with_reducible exact New.refl _ | with_reducible assumption | with_reducible refine New.alloc ?_ _ | with_reducible refine New.drewN ?_ _ | with_reducible refine New.drew ?_ | with_reducible refine New.setCell ?_ (by first | omega | (simp; done) | (simp; omega)) _ | with_reducible refine New.tail (by assumption) ?_))) (LegBlk.reads (by assumption)) hm').mono ?_; rintro e w8 ⟨rfl, hn8⟩))
      have hk8 : New w6 w8 := (by repeat (first | with_reducible exact New.refl _ | with_reducible assumption | with_reducible refine New.alloc ?_ _ | with_reducible refine New.drewN ?_ _ | with_reducible refine New.drew ?_ | with_reducible refine New.setCell ?_ (by first | omega | (simp; done) | (simp; omega)) _ | with_reducible refine New.tail (by assumption) ?_))
      clear c3' hL6 hb hn7 hn8
      go_wp2_with fail
      refine (markSurvey_any _ _ _ _ _ _ (hg6.keep hk8) hm' (by omega) (by omega)).mono ?_
      rintro e w9 ⟨rfl, ho9⟩
      have hk9 : New w3 w9 := New.only (hwc.trans (hk6.trans hk8)) ho9 hgx
      have hF9 : FSteps wc w9 B1 S := (hF6.keep hk8).only ho9 hgl
      have hwc9 : wc.heap.size ≤ w9.heap.size := by have := hk6.size; have := hk8.size; have := ho9.size; omega
      clear ho9 hg6 hF6 c5 c5' hg5 hgb
      go_wp2_with fail
      refine (eqStepS_same _ _ _ _ _ _ _ rfl hF9.reads (hR0.keep hk9) (by omega)).mono ?_
      rintro e w10 ⟨rfl, hn10⟩
      have hk10 := hk9.trans hn10
      have hF10 := hF9.keep hn10
      go_wp2_with fail
      refine (markStepS_at _ _ _ _ _ _ rfl hF10 (by have := hn10.size; omega) (by omega)).mono ?_
      rintro e w11 ⟨rfl, hb11, hF11⟩
      have hk11 : New w3 w11 := hk10.below hb11 hwc.size
      clear hF9 hF10 hn10 hk9 hk10
      go_wp2_with fail
      refine (heldStepS_any _ _ _ _ hF11.reads (by omega)).mono ?_
      rintro e w12 ⟨rfl, hn12⟩
      have hk12 := hk11.trans hn12
      go_wp2_with fail
      refine (toSurvey_any _ _ _ _ _ (hL3.keep hk12) hm').mono ?_
      rintro e w13 ⟨g2, rfl, hg2, hb2, hn13⟩
      go_wp2_with fail
      refine (implLoopSteps_any _ _ _ _ _ _ hb2.reads hm').mono ?_
      rw [HS.out, HB.out]
      rintro e w14 ⟨B2, cp2, rfl, hF2, hn14⟩
      have hk14 : New w12 w14 := hn13.trans hn14
      clear hb2 hn13 hn14
      go_wp2_with fail
      refine (eqStepS_same _ _ _ _ _ _ _ rfl hF2.reads (hR0.keep (hk12.trans hk14)) (by omega)).mono ?_
      rintro e w15 ⟨rfl, hn15⟩
      have hk15 : New w11 w15 := hn12.trans (hk14.trans hn15)
      go_wp2_with fail
      refine (heldStepS_any _ _ _ _ (hF11.keep hk15).reads (by omega)).mono ?_
      rintro e w16 ⟨rfl, hn16⟩
      go_wp2_with fail
      go_ret
      exact ⟨rfl, h13.trans (hk11.trans (hk15.trans hn16))⟩

set_option maxRecDepth 100000 in
theorem fnExactLoopSteps_lifted (os : Os) (started : os.Started) (H : Type) (enc : TypeId × Value → H) :
    ReturnsInHanded {} Try.checked os 10 .any (Rows.fnExactLoopStepsSpec.pre6 enc Try.prog Try.f10 Rows.fnExactLoopStepsRow.domain false) (Rows.fnExactLoopStepsSpec.post enc Try.prog Try.f10 false true false false) := by
  refine returnsInHanded_of_change (C := Try.checked) own started (by kernel_rfl) Try.func10
    (ChangeSpec.witness6 (enc := enc) (C := Try.checked) false ⟨#[], #[.agg #[.int .i64 0, .slice none 0 0], .int .i64 0], []⟩ 8 (by kernel_rfl) (by kernel_rfl) (by kernel_rfl) (by kernel_rfl)) ?_
  intro W base args ds gs before hval0 hW hcnd _
  have hval : ∀ (j : Nat) t v, Try.f10.params[j]? = some t → args[j]? = some v → Value.okWide Try.prog W .any base t v := hval0
  have hW' := hW
  obtain ⟨p, q, hA0, hV, rfl, hfz, hnd⟩ := hW
  have hA : DataW.TrodAll enc Try.prog W 0 (fun _ => true) true Try.f10.params.toList args.toList ds p := hA0
  have hlt : ∀ x ∈ p ++ q, x.block < W.heap.size := fun x hx => hW'.lt x hx
  rw [Try.params10] at hA hval
  obtain ⟨v0, v1, d0, d1, p0, p1, rfl, rfl, rfl, h0, h1⟩ := trodAll_two hA
  clear hA0 hval0
  obtain ⟨st, A, cap, L, rfl, hL, hm⟩ := open_survey (hval 0 _ _ rfl rfl) h0
  obtain ⟨f, rfl, rfl, rfl, wf⟩ := open_int Try.underlying3 (hval 1 _ _ rfl rfl) h1
  refine (lawLoopSteps_walk st f A cap L W hL hm).mono fun e W' ⟨he, hg⟩ => ?_
  subst he
  exact ⟨_, rfl, law_post laidOut hW' rfl ⟨rfl, rfl, rfl⟩ (by kernel_rfl) rfl Try.underlying4 hg⟩

theorem fnExactLoopSteps_over : Rows.fnExactLoopStepsRow.holds Try.pinned (OpenSpec.ofChange Rows.fnExactLoopStepsSpec) :=
  OpenClaim.holds_of_wide 10 Try.f10 rfl rfl rfl rfl rfl rfl rfl ⟨rfl, rfl, rfl, rfl, rfl⟩ rfl rfl rfl rfl rfl (by kernel_rfl) Try.func10 (by kernel_rfl)
    (of_decide_eq_true (by kernel_rfl)) (by unfold Func.isWrapper; rw [if_neg (by decide +kernel)]; exact ⟨rfl, rfl⟩)
    (fun os started H enc _ => fnExactLoopSteps_lifted os started H enc)

/-- The given statement. -/
theorem fnExactLoopSteps_holds : Rows.FnExactLoopStepsSaid := fnExactLoopSteps_over

#print axioms fnExactLoopSteps_holds
end Go.Proofs.Ythcfpdeamaognaa
