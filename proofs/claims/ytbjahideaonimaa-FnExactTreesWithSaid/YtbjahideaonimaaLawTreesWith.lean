/- FnExactTreesWith: whatever the survey and the index are, the law returns true and leaves them as they were. No condition. -/
import Derived.Test.YtbjahideaonimaaLawS
import Derived.Test.YtbjahideaonimaaTrE
import Derived.Test.YtbjahideaonimaaOpen
namespace Go.Proofs.Ytbjahideaonimaa
open Go.ChangeShapes Go.WideShapes Go.ChangeAt Go.RowKit Go.Deep Go.Joins
set_option linter.all false
set_option maxHeartbeats 2000000 in
theorem lawTreesWith_walk (st : Int) (A : Option Addr) (cap : Nat) (L : List Lg) (ix : Int) (w : World) (hL : LegsAt w A L) (hm : L.length ≤ maxLen) : Calls Try.prog 6 #[.agg #[.int .i64 st, .slice A L.length cap], .int .i64 ix] w
    fun r w' => r = .returned (.bool true) ∧ New w w' := by
  have h1 : New w (w.alloc (Obj.cells #[.int .i64 st, .slice A L.length cap] 24)) := (by repeat (first | with_reducible exact New.refl _ | with_reducible assumption | with_reducible refine New.alloc ?_ _ | with_reducible refine New.drewN ?_ _ | with_reducible refine New.drew ?_ | with_reducible refine New.setCell ?_ (by first | omega | (simp; done) | (simp; omega)) _ | with_reducible refine New.tail (by assumption) ?_))
  have h2 := Has.new w #[.int .i64 st, .slice A L.length cap] 24
  have hL' := hL.keep h1
  by_cases hbig : (1048576 : Int) < (L.length : Int)
  · go_enter Try.func6, Try.ntmps6
    go_wp2_with (go_at_call 7; refine (szSurvey_any _ _ _ _ _ hm).mono ?_; rw [if_pos hbig]; rintro e w1 ⟨rfl, hn⟩)
    go_ret
    exact ⟨rfl, h1.trans hn⟩
  · have hm' : L.length ≤ 1099511627776 := by omega
    have hneg : ¬ (1048576 : Int) - (L.length : Int) < 0 := by omega
    go_enter Try.func6, Try.ntmps6
    go_upto_region 2 with fail
    generalize (w.alloc (Obj.cells #[.int .i64 st, .slice A L.length cap] 24)) = W0 at *
    have c2 := h2.cells2
    clear h2
    go_upto_region 6 with (first | (go_at_call 7; refine (szSurvey_any _ _ _ _ _ hm).mono ?_; rw [if_neg hbig]; rintro e w1 ⟨rfl, hn⟩; have hk : New W0 w1 := New.tail hn (by repeat (first | with_reducible exact New.refl _ | with_reducible assumption | with_reducible refine New.alloc ?_ _ | with_reducible refine New.drewN ?_ _ | with_reducible refine New.drew ?_ | with_reducible refine New.setCell ?_ (by first | omega | (simp; done) | (simp; omega)) _ | with_reducible refine New.tail (by assumption) ?_))) | (go_at_call 10; refine (toSurvey_any _ _ _ _ _ (hL'.keep (by repeat (first | with_reducible exact New.refl _ | with_reducible assumption | with_reducible refine New.alloc ?_ _ | with_reducible refine New.drewN ?_ _ | with_reducible refine New.drew ?_ | with_reducible refine New.setCell ?_ (by first | omega | (simp; done) | (simp; omega)) _ | with_reducible refine New.tail (by assumption) ?_))) hm').mono ?_; rintro e w1 ⟨g, rfl, hg, hb, hn⟩; have hk : New W0 w1 := New.tail hn (by repeat (first | with_reducible exact New.refl _ | with_reducible assumption | with_reducible refine New.alloc ?_ _ | with_reducible refine New.drewN ?_ _ | with_reducible refine New.drew ?_ | with_reducible refine New.setCell ?_ (by first | omega | (simp; done) | (simp; omega)) _ | with_reducible refine New.tail (by assumption) ?_))) | (go_at_call 20; refine (specTreesWith_any st ix _ _ L _ (LegBlk.reads (by assumption)) hm').mono ?_; rintro e w1 ⟨rfl, hn⟩; have hk : New W0 w1 := New.tail hn (by repeat (first | with_reducible exact New.refl _ | with_reducible assumption | with_reducible refine New.alloc ?_ _ | with_reducible refine New.drewN ?_ _ | with_reducible refine New.drew ?_ | with_reducible refine New.setCell ?_ (by first | omega | (simp; done) | (simp; omega)) _ | with_reducible refine New.tail (by assumption) ?_))))
    go_cut [7] (fun s5 wx => ∃ g5 g, s5 = .pointer (some ⟨g5, 0, none⟩) ∧ Has wx g5 #[.int .i64 st, .slice (some ⟨g, 0, none⟩) L.length L.length] 33 ∧ LegBlk wx g L ∧ New W0 wx)
    case first =>
      go_wp2_with (go_at_call 10; refine (toSurvey_any _ _ _ _ _ (hL'.keep (by repeat (first | with_reducible exact New.refl _ | with_reducible assumption | with_reducible refine New.alloc ?_ _ | with_reducible refine New.drewN ?_ _ | with_reducible refine New.drew ?_ | with_reducible refine New.setCell ?_ (by first | omega | (simp; done) | (simp; omega)) _ | with_reducible refine New.tail (by assumption) ?_))) hm').mono ?_; rintro e w1 ⟨g, rfl, hg, hb, hn⟩; have hk : New W0 w1 := New.tail hn (by repeat (first | with_reducible exact New.refl _ | with_reducible assumption | with_reducible refine New.alloc ?_ _ | with_reducible refine New.drewN ?_ _ | with_reducible refine New.drew ?_ | with_reducible refine New.setCell ?_ (by first | omega | (simp; done) | (simp; omega)) _ | with_reducible refine New.tail (by assumption) ?_)))
      go_meet
      exact ⟨_, _, rfl, (by repeat (first | with_reducible exact Has.new _ _ _ | with_reducible assumption | with_reducible refine Has.drew ?_ | with_reducible refine Has.drewN ?_ _ | with_reducible apply Has.set1 | with_reducible apply Has.set2 | with_reducible apply Has.set3 | with_reducible apply Has.set5 | with_reducible refine Has.keep ?_ (by assumption))), LegBlk.keep (by assumption) (by repeat (first | with_reducible exact New.refl _ | with_reducible assumption | with_reducible refine New.alloc ?_ _ | with_reducible refine New.drewN ?_ _ | with_reducible refine New.drew ?_ | with_reducible refine New.setCell ?_ (by first | omega | (simp; done) | (simp; omega)) _ | with_reducible refine New.tail (by assumption) ?_)), (by repeat (first | with_reducible exact New.refl _ | with_reducible assumption | with_reducible refine New.alloc ?_ _ | with_reducible refine New.drewN ?_ _ | with_reducible refine New.drew ?_ | with_reducible refine New.setCell ?_ (by first | omega | (simp; done) | (simp; omega)) _ | with_reducible refine New.tail (by assumption) ?_))⟩
    case rest =>
      obtain ⟨g5, g, rfl, hg5, hgb, hwc⟩ := hcut
      have c2' := fun w' (hn : New wc w') => c2 w' (hwc.trans hn)
      have c5 := hg5.cells2
      have hLc := hL'.keep hwc
      clear c2 hg5
      go_wp2_with (go_at_call 21; refine (implTreesWith_any st ix _ _ L _ (LegBlk.reads (by assumption)) hm').mono ?_; rintro e w1 ⟨rfl, hn⟩; have hk : New wc w1 := New.tail hn (by repeat (first | with_reducible exact New.refl _ | with_reducible assumption | with_reducible refine New.alloc ?_ _ | with_reducible refine New.drewN ?_ _ | with_reducible refine New.drew ?_ | with_reducible refine New.setCell ?_ (by first | omega | (simp; done) | (simp; omega)) _ | with_reducible refine New.tail (by assumption) ?_)))
      go_region_held3 (fun w' => New wc w') ((repeat (first | with_reducible exact New.refl _ | with_reducible assumption | with_reducible refine New.alloc ?_ _ | with_reducible refine New.drewN ?_ _ | with_reducible refine New.drew ?_ | with_reducible refine New.setCell ?_ (by first | omega | (simp; done) | (simp; omega)) _ | with_reducible refine New.tail (by assumption) ?_))) (first | (go_at_call 10; refine (toSurvey_any _ _ _ _ _ (hLc.keep (by repeat (first | with_reducible exact New.refl _ | with_reducible assumption | with_reducible refine New.alloc ?_ _ | with_reducible refine New.drewN ?_ _ | with_reducible refine New.drew ?_ | with_reducible refine New.setCell ?_ (by first | omega | (simp; done) | (simp; omega)) _ | with_reducible refine New.tail (by assumption) ?_))) hm').mono ?_; rintro e w1 ⟨g', rfl, hg, hb, hn⟩) | (go_at_call 13; refine (eqSurvey_same _ _ _ _ _ _ _ (hgb.reads.keep (by repeat (first | with_reducible exact New.refl _ | with_reducible assumption | with_reducible refine New.alloc ?_ _ | with_reducible refine New.drewN ?_ _ | with_reducible refine New.drew ?_ | with_reducible refine New.setCell ?_ (by first | omega | (simp; done) | (simp; omega)) _ | with_reducible refine New.tail (by assumption) ?_))) (LegBlk.reads (by assumption)) hm').mono ?_; rintro e w1 ⟨rfl, hn⟩))
      go_wp2_with fail
      go_ret
      exact ⟨rfl, h1.trans (hwc.trans (by repeat (first | with_reducible exact New.refl _ | with_reducible assumption | with_reducible refine New.alloc ?_ _ | with_reducible refine New.drewN ?_ _ | with_reducible refine New.drew ?_ | with_reducible refine New.setCell ?_ (by first | omega | (simp; done) | (simp; omega)) _ | with_reducible refine New.tail (by assumption) ?_)))⟩

set_option maxRecDepth 100000 in
theorem fnExactTreesWith_lifted (os : Os) (started : os.Started) (H : Type) (enc : TypeId × Value → H) :
    ReturnsInHanded {} Try.checked os 6 .any (Rows.fnExactTreesWithSpec.pre6 enc Try.prog Try.f6 Rows.fnExactTreesWithRow.domain false) (Rows.fnExactTreesWithSpec.post enc Try.prog Try.f6 false true false false) := by
  refine returnsInHanded_of_change (C := Try.checked) own started (by kernel_rfl) Try.func6
    (ChangeSpec.witness6 (enc := enc) (C := Try.checked) false ⟨#[], #[.agg #[.int .i64 0, .slice none 0 0], .int .i64 0], []⟩ 8 (by kernel_rfl) (by kernel_rfl) (by kernel_rfl) (by kernel_rfl)) ?_
  intro W base args ds gs before hval0 hW hcnd _
  have hval : ∀ (j : Nat) t v, Try.f6.params[j]? = some t → args[j]? = some v → Value.okWide Try.prog W .any base t v := hval0
  have hW' := hW
  obtain ⟨p, q, hA0, hV, rfl, hfz, hnd⟩ := hW
  have hA : DataW.TrodAll enc Try.prog W 0 (fun _ => true) true Try.f6.params.toList args.toList ds p := hA0
  have hlt : ∀ x ∈ p ++ q, x.block < W.heap.size := fun x hx => hW'.lt x hx
  rw [Try.params6] at hA hval
  obtain ⟨v0, v1, d0, d1, p0, p1, rfl, rfl, rfl, h0, h1⟩ := trodAll_two hA
  clear hA0 hval0
  obtain ⟨st, A, cap, L, rfl, hL, hm⟩ := open_survey (hval 0 _ _ rfl rfl) h0
  obtain ⟨ix, rfl, rfl, rfl, wv⟩ := open_int Try.underlying3 (hval 1 _ _ rfl rfl) h1
  refine (lawTreesWith_walk st A cap L ix W hL hm).mono fun e W' ⟨he, hg⟩ => ?_
  subst he
  exact ⟨_, rfl, law_post laidOut hW' rfl ⟨rfl, rfl, rfl⟩ (by kernel_rfl) rfl Try.underlying4 hg⟩

theorem fnExactTreesWith_over : Rows.fnExactTreesWithRow.holds Try.pinned (OpenSpec.ofChange Rows.fnExactTreesWithSpec) :=
  OpenClaim.holds_of_wide 6 Try.f6 rfl rfl rfl rfl rfl rfl rfl ⟨rfl, rfl, rfl, rfl, rfl⟩ rfl rfl rfl rfl rfl (by kernel_rfl) Try.func6 (by kernel_rfl)
    (of_decide_eq_true (by kernel_rfl)) (by unfold Func.isWrapper; rw [if_neg (by decide +kernel)]; exact ⟨rfl, rfl⟩)
    (fun os started H enc _ => fnExactTreesWith_lifted os started H enc)

/-- The given statement. -/
theorem fnExactTreesWith_holds : Rows.FnExactTreesWithSaid := fnExactTreesWith_over

#print axioms fnExactTreesWith_holds
end Go.Proofs.Ytbjahideaonimaa
