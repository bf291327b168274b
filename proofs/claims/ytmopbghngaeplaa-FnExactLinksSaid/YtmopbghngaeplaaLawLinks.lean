/- FnExactLinks: whatever the survey is, the law returns true and leaves it as it was. No condition. -/
import Derived.Test.YtmopbghngaeplaaTreesMany
import Derived.Test.YtmopbghngaeplaaMarkM
import Derived.Test.YtmopbghngaeplaaMarks
import Derived.Test.YtmopbghngaeplaaOpen
import Derived.Test.YtmopbghngaeplaaFrame
namespace Go.Proofs.Ytmopbghngaeplaa
open Go.ChangeShapes Go.WideShapes Go.ChangeAt Go.RowKit Go.Deep Go.Joins
set_option linter.all false
set_option maxRecDepth 100000 in
set_option maxHeartbeats 4000000 in
theorem lawLinks_walk (st : Int) (A : Option Addr) (cap : Nat) (L : List Lg) (w : World) (hL : LegsAt w A L) (hm : L.length ≤ maxLen) : Calls Try.prog 13 #[.agg #[.int .i64 st, .slice A L.length cap]] w
    fun r w' => r = .returned (.bool true) ∧ New w w' := by
  have h1 : New w (w.alloc (Obj.cells #[.int .i64 st, .slice A L.length cap] 48)) := (by repeat (first | with_reducible exact New.refl _ | with_reducible assumption | with_reducible refine New.alloc ?_ _ | with_reducible refine New.drewN ?_ _ | with_reducible refine New.drew ?_ | with_reducible refine New.setCell ?_ (by first | omega | (simp; done) | (simp; omega)) _ | with_reducible refine New.tail (by assumption) ?_))
  have h2 := Has.new w #[.int .i64 st, .slice A L.length cap] 48
  have hL' := hL.keep h1
  by_cases hbig : (1048576 : Int) < (L.length : Int)
  · go_enter Try.func13, Try.ntmps13
    go_wp2_with (go_at_call 32; refine (szSurvey_any _ _ _ _ _ hm).mono ?_; rw [if_pos hbig]; rintro e w1 ⟨rfl, hn⟩)
    go_ret
    exact ⟨rfl, h1.trans hn⟩
  · have hm' : L.length ≤ 1099511627776 := by omega
    have hneg : ¬ (1048576 : Int) - (L.length : Int) < 0 := by omega
    obtain ⟨s1, s2⟩ := linksM_small st L
    obtain ⟨M, hM⟩ : ∃ M, linksM st L = M := ⟨_, rfl⟩
    rw [hM] at s1 s2
    have HM := Lib.hid hM
    have HR1 : Hid (∀ r ∈ M, r.length ≤ 1099511627776) := fun r hr => by have := s2 r hr; omega
    have HR2 : Hid (∀ r ∈ M, r.length ≤ 1048576) := fun r hr => by have := s2 r hr; omega
    have hneg2 : ¬ (1 + (tot M M.length : Int)) < 0 := by omega
    clear hM s2
    go_enter Try.func13, Try.ntmps13
    go_upto_region 2 with fail
    generalize (w.alloc (Obj.cells #[.int .i64 st, .slice A L.length cap] 48)) = W0 at *
    have c2 := h2.cells2
    clear h2
    go_upto_region 6 with (first | (go_at_call 32; refine (szSurvey_any _ _ _ _ _ hm).mono ?_; rw [if_neg hbig]; rintro e w1 ⟨rfl, hn⟩; have hk : New W0 w1 := New.tail hn (by repeat (first | with_reducible exact New.refl _ | with_reducible assumption | with_reducible refine New.alloc ?_ _ | with_reducible refine New.drewN ?_ _ | with_reducible refine New.drew ?_ | with_reducible refine New.setCell ?_ (by first | omega | (simp; done) | (simp; omega)) _ | with_reducible refine New.tail (by assumption) ?_))) | (go_at_call 34; refine (toSurvey_any _ _ _ _ _ (hL'.keep (by repeat (first | with_reducible exact New.refl _ | with_reducible assumption | with_reducible refine New.alloc ?_ _ | with_reducible refine New.drewN ?_ _ | with_reducible refine New.drew ?_ | with_reducible refine New.setCell ?_ (by first | omega | (simp; done) | (simp; omega)) _ | with_reducible refine New.tail (by assumption) ?_))) hm').mono ?_; rintro e w1 ⟨g, rfl, hg, hb, hn⟩; have hk : New W0 w1 := New.tail hn (by repeat (first | with_reducible exact New.refl _ | with_reducible assumption | with_reducible refine New.alloc ?_ _ | with_reducible refine New.drewN ?_ _ | with_reducible refine New.drew ?_ | with_reducible refine New.setCell ?_ (by first | omega | (simp; done) | (simp; omega)) _ | with_reducible refine New.tail (by assumption) ?_))) | (go_at_call 49; refine (specLinks_any _ _ _ _ _ (LegBlk.reads (by assumption)) hm').mono ?_; rw [HM.out]; rintro e w3 ⟨B0, cp0, rfl, hF0, hn3⟩; have hk3 : New W0 w3 := New.tail hn3 (by repeat (first | with_reducible exact New.refl _ | with_reducible assumption | with_reducible refine New.alloc ?_ _ | with_reducible refine New.drewN ?_ _ | with_reducible refine New.drew ?_ | with_reducible refine New.setCell ?_ (by first | omega | (simp; done) | (simp; omega)) _ | with_reducible refine New.tail (by assumption) ?_))))
    have hR0 := hF0.reads
    have c3 := fun w' (hn : New w3 w') => c2 w' (hk3.trans hn)
    have hL3 := hL'.keep hk3
    have h13 := h1.trans hk3
    clear hF0 hn3 hb hL hL' c2 h1
    go_cut [5] (fun s5 wx => ∃ g5 g, s5 = .pointer (some ⟨g5, 0, none⟩) ∧ Has wx g5 #[.int .i64 st, .slice (some ⟨g, 0, none⟩) L.length L.length] 53 ∧ LegBlk wx g L ∧ New w3 wx ∧ w3.heap.size ≤ g ∧ g5 ≠ g)
    case first =>
      go_wp2_with (go_at_call 34; refine (toSurvey_any _ _ _ _ _ (hL3.keep (by repeat (first | with_reducible exact New.refl _ | with_reducible assumption | with_reducible refine New.alloc ?_ _ | with_reducible refine New.drewN ?_ _ | with_reducible refine New.drew ?_ | with_reducible refine New.setCell ?_ (by first | omega | (simp; done) | (simp; omega)) _ | with_reducible refine New.tail (by assumption) ?_))) hm').mono ?_; rintro e w4 ⟨g, rfl, hg, hb, hn⟩)
      go_meet
      have hlt := hb.lt
      exact ⟨_, _, rfl, (by repeat (first | with_reducible exact Has.new _ _ _ | with_reducible assumption | with_reducible refine Has.drew ?_ | with_reducible refine Has.drewN ?_ _ | with_reducible apply Has.set1 | with_reducible apply Has.set2 | with_reducible apply Has.set3 | with_reducible apply Has.set5 | with_reducible refine Has.keep ?_ (by assumption))), hb.keep (by repeat (first | with_reducible exact New.refl _ | with_reducible assumption | with_reducible refine New.alloc ?_ _ | with_reducible refine New.drewN ?_ _ | with_reducible refine New.drew ?_ | with_reducible refine New.setCell ?_ (by first | omega | (simp; done) | (simp; omega)) _ | with_reducible refine New.tail (by assumption) ?_)), (by repeat (first | with_reducible exact New.refl _ | with_reducible assumption | with_reducible refine New.alloc ?_ _ | with_reducible refine New.drewN ?_ _ | with_reducible refine New.drew ?_ | with_reducible refine New.setCell ?_ (by first | omega | (simp; done) | (simp; omega)) _ | with_reducible refine New.tail (by assumption) ?_)), hg, by omega⟩
    case rest =>
      obtain ⟨g5, gx, rfl, hg5, hgb, hwc, hgx, hne⟩ := hcut
      have hgl := hgb.lt
      have c5 := hg5.cells2
      go_wp2_with fail
      refine (implLinks_any _ _ _ _ _ hgb.reads hm').mono ?_
      rw [HM.out]
      rintro e w5 ⟨B1, cp1, rfl, hF1, hn5⟩
      have hG5 := hF1.in_
      clear hF1
      go_wp2_with fail
      refine (eqIntSS_same _ _ _ _ _ _ _ rfl hG5.reads (hR0.keep (hwc.trans hn5)) (by omega) HR1.out).mono ?_
      rintro e w6 ⟨rfl, hn6⟩
      go_wp2_with fail
      have hk6 := hn5.trans hn6
      have hz5 := hn5.size
      have hG6 := hG5.keep hn6
      have hz6 := hn6.size
      clear hn5 hn6 hG5
      have c3' := fun w' (hn : New w6 w') => c3 w' ((hwc.trans hk6).trans hn)
      have c5' := fun w' (hn : New w6 w') => c5 w' (hk6.trans hn)
      have hL6 := hL3.keep (hwc.trans hk6)
      have hg6 := hgb.keep hk6
      go_region_held3 (fun w' => New w6 w') ((repeat (first | with_reducible exact New.refl _ | with_reducible assumption | with_reducible refine New.alloc ?_ _ | with_reducible refine New.drewN ?_ _ | with_reducible refine New.drew ?_ | with_reducible refine New.setCell ?_ (by first | omega | (simp; done) | (simp; omega)) _ | with_reducible refine New.tail (by assumption) ?_))) (first | (go_at_call 34; refine (toSurvey_any _ _ _ _ _ (hL6.keep (by repeat (first | with_reducible exact New.refl _ | with_reducible assumption | with_reducible refine New.alloc ?_ _ | with_reducible refine New.drewN ?_ _ | with_reducible refine New.drew ?_ | with_reducible refine New.setCell ?_ (by first | omega | (simp; done) | (simp; omega)) _ | with_reducible refine New.tail (by assumption) ?_))) hm').mono ?_; rintro e w7 ⟨g', rfl, hg, hb, hn7⟩) | (go_at_call 36; refine (eqSurvey_same _ _ _ _ _ _ _ (hg6.reads.keep (by repeat (first | with_reducible exact New.refl _ | with_reducible assumption | with_reducible refine New.alloc ?_ _ | with_reducible refine New.drewN ?_ _ | with_reducible refine New.drew ?_ | with_reducible refine New.setCell ?_ (by first | omega | (simp; done) | (simp; omega)) _ | with_reducible refine New.tail (by assumption) ?_))) (LegBlk.reads (by assumption)) hm').mono ?_; rintro e w8 ⟨rfl, hn8⟩))
      have hk8 : New w6 w8 := (by repeat (first | with_reducible exact New.refl _ | with_reducible assumption | with_reducible refine New.alloc ?_ _ | with_reducible refine New.drewN ?_ _ | with_reducible refine New.drew ?_ | with_reducible refine New.setCell ?_ (by first | omega | (simp; done) | (simp; omega)) _ | with_reducible refine New.tail (by assumption) ?_))
      have hz8 := hk8.size
      clear c3' hL6 hb hn7 hn8
      go_wp2_with fail
      refine (markSurvey_any _ _ _ _ _ _ (hg6.keep hk8) hm' (by omega) (by omega)).mono ?_
      rintro e w9 ⟨rfl, ho9⟩
      have hk9 : New w3 w9 := New.only (hwc.trans (hk6.trans hk8)) ho9 hgx
      have hG9 := (hG6.keep hk8).mid (Mid.of_only (lo := gx) (hi := gx + 1) ho9 (Nat.le_refl _) (by omega)) (.inr (by omega))
      have hz9 := ho9.size
      have hzc := hwc.size
      clear ho9 hg6 hG6 c5 c5' hg5 hgb
      go_wp2_with fail
      refine (eqIntSS_same _ _ _ _ _ _ _ rfl hG9.reads (hR0.keep hk9) (by omega) HR1.out).mono ?_
      rintro e w10 ⟨rfl, hn10⟩
      have hk10 := hk9.trans hn10
      have hz10 := hn10.size
      go_wp2_with fail
      refine (markIntSS_any _ _ _ _ _ _ _ rfl (hG9.keep hn10) (by omega) HR2.out).mono ?_
      rintro e w11 ⟨rfl, hm11, hG11⟩
      have hk11 : New w3 w11 := New.mid hk10 hm11 (by omega) (by omega)
      clear hG9 hn10 hk9 hk10
      go_wp2_with fail
      refine (heldIntSS_any _ _ _ _ _ rfl hG11.reads (by omega) HR2.out).mono ?_
      rintro e w12 ⟨rfl, hn12⟩
      have hk12 := hk11.trans hn12
      go_wp2_with fail
      refine (toSurvey_any _ _ _ _ _ (hL3.keep hk12) hm').mono ?_
      rintro e w13 ⟨g2, rfl, hg2, hb2, hn13⟩
      go_wp2_with fail
      refine (implLinks_any _ _ _ _ _ hb2.reads hm').mono ?_
      rw [HM.out]
      rintro e w14 ⟨B2, cp2, rfl, hF2, hn14⟩
      have hk14 : New w12 w14 := hn13.trans hn14
      clear hb2 hn13 hn14
      go_wp2_with fail
      refine (eqIntSS_same _ _ _ _ _ _ _ rfl hF2.reads (hR0.keep (hk12.trans hk14)) (by omega) HR1.out).mono ?_
      rintro e w15 ⟨rfl, hn15⟩
      have hk15 : New w11 w15 := hn12.trans (hk14.trans hn15)
      go_wp2_with fail
      refine (heldIntSS_any _ _ _ _ _ rfl (hG11.keep hk15).reads (by omega) HR2.out).mono ?_
      rintro e w16 ⟨rfl, hn16⟩
      go_wp2_with fail
      go_ret
      exact ⟨rfl, h13.trans (hk11.trans (hk15.trans hn16))⟩

set_option maxRecDepth 100000 in
theorem fnExactLinks_lifted (os : Os) (started : os.Started) (H : Type) (enc : TypeId × Value → H) :
    ReturnsInHanded {} Try.checked os 13 .any (Rows.fnExactLinksSpec.pre6 enc Try.prog Try.f13 Rows.fnExactLinksRow.domain false) (Rows.fnExactLinksSpec.post enc Try.prog Try.f13 false true false false) := by
  refine returnsInHanded_of_change (C := Try.checked) own started (by kernel_rfl) Try.func13
    (ChangeSpec.witness6 (enc := enc) (C := Try.checked) false ⟨#[], #[.agg #[.int .i64 0, .slice none 0 0]], []⟩ 8 (by kernel_rfl) (by kernel_rfl) (by kernel_rfl) (by kernel_rfl)) ?_
  intro W base args ds gs before hval0 hW hcnd _
  have hval : ∀ (j : Nat) t v, Try.f13.params[j]? = some t → args[j]? = some v → Value.okWide Try.prog W .any base t v := hval0
  have hW' := hW
  obtain ⟨p, q, hA0, hV, rfl, hfz, hnd⟩ := hW
  have hA : DataW.TrodAll enc Try.prog W 0 (fun _ => true) true Try.f13.params.toList args.toList ds p := hA0
  have hlt : ∀ x ∈ p ++ q, x.block < W.heap.size := fun x hx => hW'.lt x hx
  rw [Try.params13] at hA hval
  obtain ⟨v0, d0, rfl, rfl, h0⟩ := trodAll_one hA
  clear hA0 hval0
  obtain ⟨st, A, cap, L, rfl, hL, hm⟩ := open_survey (hval 0 _ _ rfl rfl) h0
  refine (lawLinks_walk st A cap L W hL hm).mono fun e W' ⟨he, hg⟩ => ?_
  subst he
  exact ⟨_, rfl, law_post laidOut hW' rfl ⟨rfl, rfl, rfl⟩ (by kernel_rfl) rfl Try.underlying4 hg⟩

theorem fnExactLinks_over : Rows.fnExactLinksRow.holds Try.pinned (OpenSpec.ofChange Rows.fnExactLinksSpec) :=
  OpenClaim.holds_of_wide 13 Try.f13 rfl rfl rfl rfl rfl rfl rfl ⟨rfl, rfl, rfl, rfl, rfl⟩ rfl rfl rfl rfl rfl (by kernel_rfl) Try.func13 (by kernel_rfl)
    (of_decide_eq_true (by kernel_rfl)) (by unfold Func.isWrapper; rw [if_neg (by decide +kernel)]; exact ⟨rfl, rfl⟩)
    (fun os started H enc _ => fnExactLinks_lifted os started H enc)

/-- The given statement. -/
theorem fnExactLinks_holds : Rows.FnExactLinksSaid := fnExactLinks_over

#print axioms fnExactLinks_holds
end Go.Proofs.Ytmopbghngaeplaa
