/- FnExactFixSum: whatever the survey and the fix are, the law returns true and leaves them as they were. No condition. -/
import Derived.Test.YtbjahideaonimaaLawS
import Derived.Test.YtbjahideaonimaaLawF
import Derived.Test.YtbjahideaonimaaFixS
import Derived.Test.YtbjahideaonimaaOpen
namespace Go.Proofs.Ytbjahideaonimaa
open Go.ChangeShapes Go.WideShapes Go.ChangeAt Go.RowKit Go.Deep Go.Joins
set_option linter.all false
set_option maxHeartbeats 4000000 in
theorem lawFixSum_walk (st : Int) (A B : Option Addr) (cap cb : Nat) (L : List Lg) (dn : Int) (N : List Wy) (w : World) (hL : LegsAt w A L) (hN : WaysAt w B N) (hm : L.length ≤ maxLen) (hmn : N.length ≤ maxLen) : Calls Try.prog 5 #[.agg #[.int .i64 st, .slice A L.length cap], .agg #[.int .i64 dn, .slice B N.length cb]] w
    fun r w' => r = .returned (.bool true) ∧ New w w' := by
  have h1 : New w ((w.alloc (Obj.cells #[.int .i64 st, .slice A L.length cap] 24)).alloc (Obj.cells #[.int .i64 dn, .slice B N.length cb] 27)) := (by repeat (first | with_reducible exact New.refl _ | with_reducible assumption | with_reducible refine New.alloc ?_ _ | with_reducible refine New.drewN ?_ _ | with_reducible refine New.drew ?_ | with_reducible refine New.setCell ?_ (by first | omega | (simp; done) | (simp; omega)) _ | with_reducible refine New.tail (by assumption) ?_))
  have h2 := (Has.new w #[.int .i64 st, .slice A L.length cap] 24).alloc (Obj.cells #[.int .i64 dn, .slice B N.length cb] 27)
  have h3 := Has.new (w.alloc (Obj.cells #[.int .i64 st, .slice A L.length cap] 24)) #[.int .i64 dn, .slice B N.length cb] 27
  simp only [World.size_alloc] at h3
  have hL' := hL.keep h1
  have hN' := hN.keep h1
  by_cases hbig : (1048576 : Int) < (L.length : Int)
  · go_enter Try.func5, Try.ntmps5
    go_wp2_with (go_at_call 7; refine (szSurvey_any _ _ _ _ _ hm).mono ?_; rw [if_pos hbig]; rintro e w1 ⟨rfl, hn⟩)
    go_ret
    exact ⟨rfl, h1.trans hn⟩
  have hm' : L.length ≤ 1099511627776 := by omega
  have hneg : ¬ (1048576 : Int) - (L.length : Int) < 0 := by omega
  by_cases hbig2 : (1048576 : Int) - (L.length : Int) < (N.length : Int)
  · go_enter Try.func5, Try.ntmps5
    go_upto_region 2 with fail
    generalize ((w.alloc (Obj.cells #[.int .i64 st, .slice A L.length cap] 24)).alloc (Obj.cells #[.int .i64 dn, .slice B N.length cb] 27)) = W0 at *
    have c2 := h2.cells2
    have c3 := h3.cells2
    clear h2 h3
    go_wp2_with (first | (go_at_call 7; refine (szSurvey_any _ _ _ _ _ hm).mono ?_; rw [if_neg hbig]; rintro e w1 ⟨rfl, hn⟩; have hk : New W0 w1 := New.tail hn (by repeat (first | with_reducible exact New.refl _ | with_reducible assumption | with_reducible refine New.alloc ?_ _ | with_reducible refine New.drewN ?_ _ | with_reducible refine New.drew ?_ | with_reducible refine New.setCell ?_ (by first | omega | (simp; done) | (simp; omega)) _ | with_reducible refine New.tail (by assumption) ?_))) | (go_at_call 8; refine (szFix_any _ _ _ _ _ _ (by omega) (by omega) hmn).mono ?_; rw [if_pos hbig2]; rintro _ w2 ⟨rfl, hn2⟩; have hk2 : New W0 w2 := (by repeat (first | with_reducible exact New.refl _ | with_reducible assumption | with_reducible refine New.alloc ?_ _ | with_reducible refine New.drewN ?_ _ | with_reducible refine New.drew ?_ | with_reducible refine New.setCell ?_ (by first | omega | (simp; done) | (simp; omega)) _ | with_reducible refine New.tail (by assumption) ?_))))
    go_ret
    exact ⟨rfl, h1.trans hk2⟩
  have hmn' : N.length ≤ 1099511627776 := by omega
  have hneg2 : ¬ (1048576 : Int) - (L.length : Int) - (N.length : Int) < 0 := by omega
  go_enter Try.func5, Try.ntmps5
  go_upto_region 2 with fail
  generalize ((w.alloc (Obj.cells #[.int .i64 st, .slice A L.length cap] 24)).alloc (Obj.cells #[.int .i64 dn, .slice B N.length cb] 27)) = W0 at *
  have c2 := h2.cells2
  have c3 := h3.cells2
  clear h2 h3
  go_upto_region 8 with (first | (go_at_call 7; refine (szSurvey_any _ _ _ _ _ hm).mono ?_; rw [if_neg (by omega)]; rintro _ w1 ⟨rfl, hn1⟩) | (go_at_call 8; refine (szFix_any _ _ _ _ _ _ (by omega) (by omega) hmn).mono ?_; rw [if_neg (by omega)]; rintro _ w2 ⟨rfl, hn2⟩))
  have hkA : New W0 w2 := hn1.trans hn2
  have cA := fun w' (hn : New w2 w') => c2 w' (hkA.trans hn)
  have dA := fun w' (hn : New w2 w') => c3 w' (hkA.trans hn)
  have hLA := hL'.keep hkA
  have hNA := hN'.keep hkA
  clear hn1 hn2 c2 c3 hL' hN' hL hN
  obtain ⟨R, hR⟩ : ∃ R, fsZ st L dn N = R := ⟨_, rfl⟩
  have HR := Lib.hid hR
  clear hR
  go_region_held3 (fun w' => New w2 w') ((repeat (first | with_reducible exact New.refl _ | with_reducible assumption | with_reducible refine New.alloc ?_ _ | with_reducible refine New.drewN ?_ _ | with_reducible refine New.drew ?_ | with_reducible refine New.setCell ?_ (by first | omega | (simp; done) | (simp; omega)) _ | with_reducible refine New.tail (by assumption) ?_))) (first | (go_at_call 10; refine (toSurvey_any _ _ _ _ _ (hLA.keep (by repeat (first | with_reducible exact New.refl _ | with_reducible assumption | with_reducible refine New.alloc ?_ _ | with_reducible refine New.drewN ?_ _ | with_reducible refine New.drew ?_ | with_reducible refine New.setCell ?_ (by first | omega | (simp; done) | (simp; omega)) _ | with_reducible refine New.tail (by assumption) ?_))) hm').mono ?_; rintro _ ws ⟨gS, rfl, hgS, hbS, hnS⟩) | (go_at_call 11; refine (toFix_any _ _ _ _ _ (hNA.keep (by repeat (first | with_reducible exact New.refl _ | with_reducible assumption | with_reducible refine New.alloc ?_ _ | with_reducible refine New.drewN ?_ _ | with_reducible refine New.drew ?_ | with_reducible refine New.setCell ?_ (by first | omega | (simp; done) | (simp; omega)) _ | with_reducible refine New.tail (by assumption) ?_))) hmn').mono ?_; rintro _ wf ⟨gF, rfl, hgF, hbF, hnF⟩) | (go_at_call 18; refine (specFixSum_any st _ _ _ _ L dn N _ (LegBlk.reads (hbS.keep (by repeat (first | with_reducible exact New.refl _ | with_reducible assumption | with_reducible refine New.alloc ?_ _ | with_reducible refine New.drewN ?_ _ | with_reducible refine New.drew ?_ | with_reducible refine New.setCell ?_ (by first | omega | (simp; done) | (simp; omega)) _ | with_reducible refine New.tail (by assumption) ?_)))) (WayBlk.reads (hbF.keep (by repeat (first | with_reducible exact New.refl _ | with_reducible assumption | with_reducible refine New.alloc ?_ _ | with_reducible refine New.drewN ?_ _ | with_reducible refine New.drew ?_ | with_reducible refine New.setCell ?_ (by first | omega | (simp; done) | (simp; omega)) _ | with_reducible refine New.tail (by assumption) ?_)))) hm' hmn').mono ?_; rw [HR.out]; rintro _ wv ⟨rfl, hnv⟩; have hkv : New w2 wv := (by repeat (first | with_reducible exact New.refl _ | with_reducible assumption | with_reducible refine New.alloc ?_ _ | with_reducible refine New.drewN ?_ _ | with_reducible refine New.drew ?_ | with_reducible refine New.setCell ?_ (by first | omega | (simp; done) | (simp; omega)) _ | with_reducible refine New.tail (by assumption) ?_))))
  go_upto_region 9 with fail
  go_cut [7] (fun s1 wx => ∃ g5 g, s1 = .pointer (some ⟨g5, 0, none⟩) ∧ Has wx g5 #[.int .i64 st, .slice (some ⟨g, 0, none⟩) L.length L.length] 33 ∧ LegBlk wx g L ∧ New w2 wx)
  case first =>
    go_wp2_with (go_at_call 10; refine (toSurvey_any _ _ _ _ _ (hLA.keep (by repeat (first | with_reducible exact New.refl _ | with_reducible assumption | with_reducible refine New.alloc ?_ _ | with_reducible refine New.drewN ?_ _ | with_reducible refine New.drew ?_ | with_reducible refine New.setCell ?_ (by first | omega | (simp; done) | (simp; omega)) _ | with_reducible refine New.tail (by assumption) ?_))) hm').mono ?_; rintro _ ws ⟨gS, rfl, hgS, hbS, hnS⟩)
    go_meet
    exact ⟨_, _, rfl, (by repeat (first | with_reducible exact Has.new _ _ _ | with_reducible assumption | with_reducible refine Has.drew ?_ | with_reducible refine Has.drewN ?_ _ | with_reducible apply Has.set1 | with_reducible apply Has.set2 | with_reducible apply Has.set3 | with_reducible apply Has.set5 | with_reducible refine Has.keep ?_ (by assumption))), LegBlk.keep (by assumption) (by repeat (first | with_reducible exact New.refl _ | with_reducible assumption | with_reducible refine New.alloc ?_ _ | with_reducible refine New.drewN ?_ _ | with_reducible refine New.drew ?_ | with_reducible refine New.setCell ?_ (by first | omega | (simp; done) | (simp; omega)) _ | with_reducible refine New.tail (by assumption) ?_)), (by repeat (first | with_reducible exact New.refl _ | with_reducible assumption | with_reducible refine New.alloc ?_ _ | with_reducible refine New.drewN ?_ _ | with_reducible refine New.drew ?_ | with_reducible refine New.setCell ?_ (by first | omega | (simp; done) | (simp; omega)) _ | with_reducible refine New.tail (by assumption) ?_))⟩
  case rest =>
    obtain ⟨g5, g, rfl, hg5, hgb, hwB⟩ := hcut
    have cB := fun w' (hn : New wc w') => cA w' (hwB.trans hn)
    have dB := fun w' (hn : New wc w') => dA w' (hwB.trans hn)
    have hLB := hLA.keep hwB
    have hNB := hNA.keep hwB
    have hkB := hkA.trans hwB
    clear cA dA hLA hNA hkv hnv hbS hbF hgS hgF hnS hnF
    obtain ⟨wB, rfl⟩ : ∃ wB, wB = wc := ⟨_, rfl⟩
    go_upto_region 10 with fail
    go_cut [8] (fun s1 wx => ∃ g6 g', s1 = .pointer (some ⟨g6, 0, none⟩) ∧ Has wx g6 #[.int .i64 dn, .slice (some ⟨g', 0, none⟩) N.length N.length] 37 ∧ WayBlk wx g' N ∧ New wB wx)
    case first =>
      go_wp2_with (go_at_call 11; refine (toFix_any _ _ _ _ _ (hNB.keep (by repeat (first | with_reducible exact New.refl _ | with_reducible assumption | with_reducible refine New.alloc ?_ _ | with_reducible refine New.drewN ?_ _ | with_reducible refine New.drew ?_ | with_reducible refine New.setCell ?_ (by first | omega | (simp; done) | (simp; omega)) _ | with_reducible refine New.tail (by assumption) ?_))) hmn').mono ?_; rintro _ wf ⟨gF, rfl, hgF, hbF, hnF⟩)
      go_meet
      exact ⟨_, _, rfl, (by repeat (first | with_reducible exact Has.new _ _ _ | with_reducible assumption | with_reducible refine Has.drew ?_ | with_reducible refine Has.drewN ?_ _ | with_reducible apply Has.set1 | with_reducible apply Has.set2 | with_reducible apply Has.set3 | with_reducible apply Has.set5 | with_reducible refine Has.keep ?_ (by assumption))), WayBlk.keep (by assumption) (by repeat (first | with_reducible exact New.refl _ | with_reducible assumption | with_reducible refine New.alloc ?_ _ | with_reducible refine New.drewN ?_ _ | with_reducible refine New.drew ?_ | with_reducible refine New.setCell ?_ (by first | omega | (simp; done) | (simp; omega)) _ | with_reducible refine New.tail (by assumption) ?_)), (by repeat (first | with_reducible exact New.refl _ | with_reducible assumption | with_reducible refine New.alloc ?_ _ | with_reducible refine New.drewN ?_ _ | with_reducible refine New.drew ?_ | with_reducible refine New.setCell ?_ (by first | omega | (simp; done) | (simp; omega)) _ | with_reducible refine New.tail (by assumption) ?_))⟩
    case rest =>
      obtain ⟨g6, g', rfl, hg6, hgw, hwC⟩ := hcut
      have cC := fun w' (hn : New wc w') => cB w' (hwC.trans hn)
      have dC := fun w' (hn : New wc w') => dB w' (hwC.trans hn)
      have hLC := hLB.keep hwC
      have hNC := hNB.keep hwC
      have hkC := hkB.trans hwC
      have e5 := (hg5.keep hwC).cells2
      have e6 := hg6.cells2
      have hgb' := hgb.keep hwC
      clear cB dB hLB hNB hg5 hg6 hgb
      go_wp2_with (go_at_call 19; refine (implFixSum_any st _ _ _ _ L dn N _ hgb'.reads hgw.reads hm' hmn').mono ?_; rw [HR.out]; rintro _ w7 ⟨rfl, hn7⟩)
      go_region_held3 (fun w' => New wc w') ((repeat (first | with_reducible exact New.refl _ | with_reducible assumption | with_reducible refine New.alloc ?_ _ | with_reducible refine New.drewN ?_ _ | with_reducible refine New.drew ?_ | with_reducible refine New.setCell ?_ (by first | omega | (simp; done) | (simp; omega)) _ | with_reducible refine New.tail (by assumption) ?_))) (first | (go_at_call 10; refine (toSurvey_any _ _ _ _ _ (hLC.keep (by repeat (first | with_reducible exact New.refl _ | with_reducible assumption | with_reducible refine New.alloc ?_ _ | with_reducible refine New.drewN ?_ _ | with_reducible refine New.drew ?_ | with_reducible refine New.setCell ?_ (by first | omega | (simp; done) | (simp; omega)) _ | with_reducible refine New.tail (by assumption) ?_))) hm').mono ?_; rintro _ ws ⟨gS, rfl, hgS, hbS, hnS⟩) | (go_at_call 13; refine (eqSurvey_same _ _ _ _ _ _ _ (hgb'.reads.keep (by repeat (first | with_reducible exact New.refl _ | with_reducible assumption | with_reducible refine New.alloc ?_ _ | with_reducible refine New.drewN ?_ _ | with_reducible refine New.drew ?_ | with_reducible refine New.setCell ?_ (by first | omega | (simp; done) | (simp; omega)) _ | with_reducible refine New.tail (by assumption) ?_))) (LegBlk.reads (hbS.keep (by repeat (first | with_reducible exact New.refl _ | with_reducible assumption | with_reducible refine New.alloc ?_ _ | with_reducible refine New.drewN ?_ _ | with_reducible refine New.drew ?_ | with_reducible refine New.setCell ?_ (by first | omega | (simp; done) | (simp; omega)) _ | with_reducible refine New.tail (by assumption) ?_)))) hm').mono ?_; rintro _ we ⟨rfl, hne⟩; have hke : New wc we := (by repeat (first | with_reducible exact New.refl _ | with_reducible assumption | with_reducible refine New.alloc ?_ _ | with_reducible refine New.drewN ?_ _ | with_reducible refine New.drew ?_ | with_reducible refine New.setCell ?_ (by first | omega | (simp; done) | (simp; omega)) _ | with_reducible refine New.tail (by assumption) ?_))))
      go_wp2_with fail
      go_region_held3 (fun w' => New wc w') ((repeat (first | with_reducible exact New.refl _ | with_reducible assumption | with_reducible refine New.alloc ?_ _ | with_reducible refine New.drewN ?_ _ | with_reducible refine New.drew ?_ | with_reducible refine New.setCell ?_ (by first | omega | (simp; done) | (simp; omega)) _ | with_reducible refine New.tail (by assumption) ?_))) (first | (go_at_call 11; refine (toFix_any _ _ _ _ _ (hNC.keep (by repeat (first | with_reducible exact New.refl _ | with_reducible assumption | with_reducible refine New.alloc ?_ _ | with_reducible refine New.drewN ?_ _ | with_reducible refine New.drew ?_ | with_reducible refine New.setCell ?_ (by first | omega | (simp; done) | (simp; omega)) _ | with_reducible refine New.tail (by assumption) ?_))) hmn').mono ?_; rintro _ wf ⟨gF, rfl, hgF, hbF, hnF⟩) | (go_at_call 14; refine (eqFix_same _ _ _ _ _ _ _ (hgw.reads.keep (by repeat (first | with_reducible exact New.refl _ | with_reducible assumption | with_reducible refine New.alloc ?_ _ | with_reducible refine New.drewN ?_ _ | with_reducible refine New.drew ?_ | with_reducible refine New.setCell ?_ (by first | omega | (simp; done) | (simp; omega)) _ | with_reducible refine New.tail (by assumption) ?_))) (WayBlk.reads (hbF.keep (by repeat (first | with_reducible exact New.refl _ | with_reducible assumption | with_reducible refine New.alloc ?_ _ | with_reducible refine New.drewN ?_ _ | with_reducible refine New.drew ?_ | with_reducible refine New.setCell ?_ (by first | omega | (simp; done) | (simp; omega)) _ | with_reducible refine New.tail (by assumption) ?_)))) hmn').mono ?_; rintro _ wz ⟨rfl, hnz⟩; have hkz : New wc wz := (by repeat (first | with_reducible exact New.refl _ | with_reducible assumption | with_reducible refine New.alloc ?_ _ | with_reducible refine New.drewN ?_ _ | with_reducible refine New.drew ?_ | with_reducible refine New.setCell ?_ (by first | omega | (simp; done) | (simp; omega)) _ | with_reducible refine New.tail (by assumption) ?_))))
      go_wp2_with fail
      go_ret
      exact ⟨rfl, h1.trans (hkC.trans hkz)⟩

set_option maxRecDepth 100000 in
theorem fnExactFixSum_lifted (os : Os) (started : os.Started) (H : Type) (enc : TypeId × Value → H) :
    ReturnsInHanded {} Try.checked os 5 .any (Rows.fnExactFixSumSpec.pre6 enc Try.prog Try.f5 Rows.fnExactFixSumRow.domain false) (Rows.fnExactFixSumSpec.post enc Try.prog Try.f5 false true false false) := by
  refine returnsInHanded_of_change (C := Try.checked) own started (by kernel_rfl) Try.func5
    (ChangeSpec.witness6 (enc := enc) (C := Try.checked) false ⟨#[], #[.agg #[.int .i64 0, .slice none 0 0], .agg #[.int .i64 0, .slice none 0 0]], []⟩ 8 (by kernel_rfl) (by kernel_rfl) (by kernel_rfl) (by kernel_rfl)) ?_
  intro W base args ds gs before hval0 hW hcnd _
  have hval : ∀ (j : Nat) t v, Try.f5.params[j]? = some t → args[j]? = some v → Value.okWide Try.prog W .any base t v := hval0
  have hW' := hW
  obtain ⟨p, q, hA0, hV, rfl, hfz, hnd⟩ := hW
  have hA : DataW.TrodAll enc Try.prog W 0 (fun _ => true) true Try.f5.params.toList args.toList ds p := hA0
  have hlt : ∀ x ∈ p ++ q, x.block < W.heap.size := fun x hx => hW'.lt x hx
  rw [Try.params5] at hA hval
  obtain ⟨v0, v1, d0, d1, p0, p1, rfl, rfl, rfl, h0, h1⟩ := trodAll_two hA
  clear hA0 hval0
  obtain ⟨st, A, cap, L, rfl, hL, hm⟩ := open_survey (hval 0 _ _ rfl rfl) h0
  obtain ⟨dn, B, cb, N, rfl, hN, hmn⟩ := open_fix (hval 1 _ _ rfl rfl) h1
  refine (lawFixSum_walk st A B cap cb L dn N W hL hN hm hmn).mono fun e W' ⟨he, hg⟩ => ?_
  subst he
  exact ⟨_, rfl, law_post laidOut hW' rfl ⟨rfl, rfl, rfl⟩ (by kernel_rfl) rfl Try.underlying4 hg⟩

theorem fnExactFixSum_over : Rows.fnExactFixSumRow.holds Try.pinned (OpenSpec.ofChange Rows.fnExactFixSumSpec) :=
  OpenClaim.holds_of_wide 5 Try.f5 rfl rfl rfl rfl rfl rfl rfl ⟨rfl, rfl, rfl, rfl, rfl⟩ rfl rfl rfl rfl rfl (by kernel_rfl) Try.func5 (by kernel_rfl)
    (of_decide_eq_true (by kernel_rfl)) (by unfold Func.isWrapper; rw [if_neg (by decide +kernel)]; exact ⟨rfl, rfl⟩)
    (fun os started H enc _ => fnExactFixSum_lifted os started H enc)

/-- The given statement. -/
theorem fnExactFixSum_holds : Rows.FnExactFixSumSaid := fnExactFixSum_over

#print axioms fnExactFixSum_holds
end Go.Proofs.Ytbjahideaonimaa
