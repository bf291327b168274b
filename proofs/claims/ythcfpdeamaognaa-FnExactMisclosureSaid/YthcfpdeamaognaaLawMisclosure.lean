/- FnExactMisclosure: whatever the survey and the index are, the law returns true and leaves its arguments as they were. No condition. -/
import Derived.Test.YthcfpdeamaognaaMiss
import Derived.Test.YthcfpdeamaognaaLawS
import Derived.Test.YthcfpdeamaognaaOpen
import Derived.Test.YthcfpdeamaognaaFrame
namespace Go.Proofs.Ythcfpdeamaognaa
open Go.ChangeShapes Go.WideShapes Go.ChangeAt Go.RowKit Go.Deep Go.Joins
set_option linter.all false
set_option maxHeartbeats 4000000 in
theorem lawMisclosure_walk (st v : Int) (A : Option Addr) (cap : Nat) (L : List Lg) (w : World) (hL : LegsAt w A L) (hm : L.length ≤ maxLen) :
    Calls Try.prog 11 #[.agg #[.int .i64 st, .slice A L.length cap], .int .i64 v] w fun r w' => r = .returned (.bool true) ∧ New w w' := by
  have h1 : New w (w.alloc (Obj.cells #[.int .i64 st, .slice A L.length cap] 24)) := (by repeat (first | with_reducible exact New.refl _ | with_reducible assumption | with_reducible refine New.alloc ?_ _ | with_reducible refine New.drewN ?_ _ | with_reducible refine New.drew ?_ | with_reducible refine New.setCell ?_ (by first | omega | (simp; done) | (simp; omega)) _ | with_reducible refine New.tail (by assumption) ?_))
  have h2 := Has.new w #[.int .i64 st, .slice A L.length cap] 24
  have hL' := hL.keep h1
  by_cases hbig : (1048576 : Int) < (L.length : Int)
  · go_enter Try.func11, Try.ntmps11
    go_wp2_with (go_at_call 15; refine (szSurvey_any _ _ _ _ _ hm).mono ?_; rw [if_pos hbig]; rintro e w1 ⟨rfl, hn⟩)
    go_ret
    exact ⟨rfl, h1.trans hn⟩
  have hm' : L.length ≤ 1099511627776 := by omega
  have hneg : ¬ (1048576 : Int) - (L.length : Int) < 0 := by omega
  obtain ⟨E, hE⟩ : ∃ x, miF st L v (stE L) Lg.e = x := ⟨_, rfl⟩
  obtain ⟨N, hN⟩ : ∃ x, miF st L v (stN L) Lg.n = x := ⟨_, rfl⟩
  obtain ⟨U, hU⟩ : ∃ x, miF st L v (stU L) Lg.u = x := ⟨_, rfl⟩
  obtain ⟨b, hB⟩ : ∃ x, miOk st L v = x := ⟨_, rfl⟩
  have HS := Lib.hid (And.intro hE (And.intro hN (And.intro hU hB)))
  have hbb : (b != b) = false := by simp
  clear hE hN hU hB
  go_enter Try.func11, Try.ntmps11
  go_upto_region 2 with fail
  generalize (w.alloc (Obj.cells #[.int .i64 st, .slice A L.length cap] 24)) = W0 at *
  have c2 := h2.cells2
  clear h2
  go_wp2_with fail
  refine (szSurvey_any _ _ _ _ _ hm).mono ?_
  rw [if_neg (by omega)]
  rintro e w1 ⟨rfl, hn1⟩
  go_wp2_with fail
  refine (toSurvey_any _ _ _ _ _ (hL'.keep hn1) hm').mono ?_
  rintro e w3 ⟨g, rfl, hg, hb, hn3⟩
  have hk3 : New W0 w3 := hn1.trans hn3
  go_wp2_with fail
  refine (specMisclosure_any _ _ _ _ _ _ hb.reads hm').mono ?_
  rw [HS.out.1, HS.out.2.1, HS.out.2.2.1, HS.out.2.2.2]
  rintro e w5 ⟨rfl, hn5⟩
  have hk5' : New W0 w5 := hk3.trans hn5
  clear hn1 hn3 hn5 hb hk3
  go_upto_region 6 with fail
  have h6 := Has.new w5 #[.int .i64 E, .int .i64 N, .int .i64 U] 50
  have hk5 : New W0 (w5.alloc (Obj.cells #[.int .i64 E, .int .i64 N, .int .i64 U] 50)) := (by repeat (first | with_reducible exact New.refl _ | with_reducible assumption | with_reducible refine New.alloc ?_ _ | with_reducible refine New.drewN ?_ _ | with_reducible refine New.drew ?_ | with_reducible refine New.setCell ?_ (by first | omega | (simp; done) | (simp; omega)) _ | with_reducible refine New.tail (by assumption) ?_))
  generalize (w5.alloc (Obj.cells #[.int .i64 E, .int .i64 N, .int .i64 U] 50)) = W5 at *
  go_cut [8] (fun s7 wx => ∃ g7 g, s7 = .pointer (some ⟨g7, 0, none⟩) ∧ Has wx g7 #[.int .i64 st, .slice (some ⟨g, 0, none⟩) L.length L.length] 29 ∧ LegBlk wx g L ∧ New W5 wx)
  case first =>
    go_wp2_with fail
    refine (toSurvey_any _ _ _ _ _ (hL'.keep hk5) hm').mono ?_
    rintro e w6 ⟨g, rfl, hg, hb, hn6⟩
    go_wp2_with fail
    go_meet
    exact ⟨_, _, rfl, (by repeat (first | with_reducible exact Has.new _ _ _ | with_reducible assumption | with_reducible refine Has.drew ?_ | with_reducible refine Has.drewN ?_ _ | with_reducible apply Has.set1 | with_reducible apply Has.set2 | with_reducible apply Has.set3 | with_reducible apply Has.set5 | with_reducible refine Has.keep ?_ (by assumption))), hb.keep (by repeat (first | with_reducible exact New.refl _ | with_reducible assumption | with_reducible refine New.alloc ?_ _ | with_reducible refine New.drewN ?_ _ | with_reducible refine New.drew ?_ | with_reducible refine New.setCell ?_ (by first | omega | (simp; done) | (simp; omega)) _ | with_reducible refine New.tail (by assumption) ?_)), (by repeat (first | with_reducible exact New.refl _ | with_reducible assumption | with_reducible refine New.alloc ?_ _ | with_reducible refine New.drewN ?_ _ | with_reducible refine New.drew ?_ | with_reducible refine New.setCell ?_ (by first | omega | (simp; done) | (simp; omega)) _ | with_reducible refine New.tail (by assumption) ?_))⟩
  case rest =>
    obtain ⟨g7, gx, rfl, hg7, hgb, hwc5⟩ := hcut
    have hwc := hk5.trans hwc5
    have h6c := h6.keep hwc5
    clear h6 hk5 hwc5
    have c7 := hg7.cells2
    have c2' := fun w' (hn : New wc w') => c2 w' (hwc.trans hn)
    have hLc := hL'.keep hwc
    clear c2 hL hL'
    go_wp2_with fail
    refine (implMisclosure_any _ _ _ _ _ _ hgb.reads hm').mono ?_
    rw [HS.out.1, HS.out.2.1, HS.out.2.2.1, HS.out.2.2.2]
    rintro e w7 ⟨rfl, hn7⟩
    go_upto_region 8 with fail
    have h10 := Has.new w7 #[.int .i64 E, .int .i64 N, .int .i64 U] 50
    have hk7 : New wc (w7.alloc (Obj.cells #[.int .i64 E, .int .i64 N, .int .i64 U] 50)) := (by repeat (first | with_reducible exact New.refl _ | with_reducible assumption | with_reducible refine New.alloc ?_ _ | with_reducible refine New.drewN ?_ _ | with_reducible refine New.drew ?_ | with_reducible refine New.setCell ?_ (by first | omega | (simp; done) | (simp; omega)) _ | with_reducible refine New.tail (by assumption) ?_))
    generalize (w7.alloc (Obj.cells #[.int .i64 E, .int .i64 N, .int .i64 U] 50)) = W7 at *
    clear hn7
    have c10 := h10.cells3
    have c6 := (h6c.keep hk7).cells3
    clear h6c h10
    go_wp2_with fail
    refine (eqWay_refl _ _ _ _).mono ?_
    rintro e w7 ⟨rfl, hnE⟩
    have hk7 := hk7.trans hnE
    clear c6 c10 hnE
    go_wp2_with fail
    have c2'' := fun w' (hn : New w7 w') => c2' w' (hk7.trans hn)
    have c7' := fun w' (hn : New w7 w') => c7 w' (hk7.trans hn)
    clear c2' c7
    go_region_held3 (fun w' => New w7 w') ((repeat (first | with_reducible exact New.refl _ | with_reducible assumption | with_reducible refine New.alloc ?_ _ | with_reducible refine New.drewN ?_ _ | with_reducible refine New.drew ?_ | with_reducible refine New.setCell ?_ (by first | omega | (simp; done) | (simp; omega)) _ | with_reducible refine New.tail (by assumption) ?_))) (first | (go_at_call 17; refine (toSurvey_any _ _ _ _ _ ((hLc.keep hk7).keep (by repeat (first | with_reducible exact New.refl _ | with_reducible assumption | with_reducible refine New.alloc ?_ _ | with_reducible refine New.drewN ?_ _ | with_reducible refine New.drew ?_ | with_reducible refine New.setCell ?_ (by first | omega | (simp; done) | (simp; omega)) _ | with_reducible refine New.tail (by assumption) ?_))) hm').mono ?_; rintro e w8 ⟨g', rfl, hg, hb, hn8⟩) | (go_at_call 19; refine (eqSurvey_same _ _ _ _ _ _ _ ((hgb.keep hk7).reads.keep (by repeat (first | with_reducible exact New.refl _ | with_reducible assumption | with_reducible refine New.alloc ?_ _ | with_reducible refine New.drewN ?_ _ | with_reducible refine New.drew ?_ | with_reducible refine New.setCell ?_ (by first | omega | (simp; done) | (simp; omega)) _ | with_reducible refine New.tail (by assumption) ?_))) (LegBlk.reads (by assumption)) hm').mono ?_; rintro e w9 ⟨rfl, hn9⟩))
    have hk9 : New w7 w9 := (by repeat (first | with_reducible exact New.refl _ | with_reducible assumption | with_reducible refine New.alloc ?_ _ | with_reducible refine New.drewN ?_ _ | with_reducible refine New.drew ?_ | with_reducible refine New.setCell ?_ (by first | omega | (simp; done) | (simp; omega)) _ | with_reducible refine New.tail (by assumption) ?_))
    go_wp2_with fail
    go_ret
    exact ⟨rfl, h1.trans (hwc.trans (hk7.trans hk9))⟩

set_option maxRecDepth 100000 in
theorem fnExactMisclosure_lifted (os : Os) (started : os.Started) (H : Type) (enc : TypeId × Value → H) :
    ReturnsInHanded {} Try.checked os 11 .any (Rows.fnExactMisclosureSpec.pre6 enc Try.prog Try.f11 Rows.fnExactMisclosureRow.domain false) (Rows.fnExactMisclosureSpec.post enc Try.prog Try.f11 false true false false) := by
  refine returnsInHanded_of_change (C := Try.checked) own started (by kernel_rfl) Try.func11
    (ChangeSpec.witness6 (enc := enc) (C := Try.checked) false ⟨#[], #[.agg #[.int .i64 0, .slice none 0 0], .int .i64 0], []⟩ 8 (by kernel_rfl) (by kernel_rfl) (by kernel_rfl) (by kernel_rfl)) ?_
  intro W base args ds gs before hval0 hW hcnd _
  have hval : ∀ (j : Nat) t v, Try.f11.params[j]? = some t → args[j]? = some v → Value.okWide Try.prog W .any base t v := hval0
  have hW' := hW
  obtain ⟨p, q, hA0, hV, rfl, hfz, hnd⟩ := hW
  have hA : DataW.TrodAll enc Try.prog W 0 (fun _ => true) true Try.f11.params.toList args.toList ds p := hA0
  have hlt : ∀ x ∈ p ++ q, x.block < W.heap.size := fun x hx => hW'.lt x hx
  rw [Try.params11] at hA hval
  obtain ⟨v0, v1, d0, d1, p0, p1, rfl, rfl, rfl, h0, h1⟩ := trodAll_two hA
  clear hA0 hval0
  obtain ⟨st, A, cap, L, rfl, hL, hm⟩ := open_survey (hval 0 _ _ rfl rfl) h0
  obtain ⟨v, rfl, rfl, rfl, wv⟩ := open_int Try.underlying3 (hval 1 _ _ rfl rfl) h1
  refine (lawMisclosure_walk st v A cap L W hL hm).mono fun e W' ⟨he, hg⟩ => ?_
  subst he
  exact ⟨_, rfl, law_post laidOut hW' rfl ⟨rfl, rfl, rfl⟩ (by kernel_rfl) rfl Try.underlying4 hg⟩

theorem fnExactMisclosure_over : Rows.fnExactMisclosureRow.holds Try.pinned (OpenSpec.ofChange Rows.fnExactMisclosureSpec) :=
  OpenClaim.holds_of_wide 11 Try.f11 rfl rfl rfl rfl rfl rfl rfl ⟨rfl, rfl, rfl, rfl, rfl⟩ rfl rfl rfl rfl rfl (by kernel_rfl) Try.func11 (by kernel_rfl)
    (of_decide_eq_true (by kernel_rfl)) (by unfold Func.isWrapper; rw [if_neg (by decide +kernel)]; exact ⟨rfl, rfl⟩)
    (fun os started H enc _ => fnExactMisclosure_lifted os started H enc)

/-- The given statement. -/
theorem fnExactMisclosure_holds : Rows.FnExactMisclosureSaid := fnExactMisclosure_over

#print axioms fnExactMisclosure_holds
end Go.Proofs.Ythcfpdeamaognaa
