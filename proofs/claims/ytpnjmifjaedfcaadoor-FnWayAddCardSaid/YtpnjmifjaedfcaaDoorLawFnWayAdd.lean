/- FnWayAdd: whatever the code is, the law returns true and leaves it as it was. No condition. -/
import Derived.Test.YtpnjmifjaedfcaaDoorDrawL
import Derived.Test.YtpnjmifjaedfcaaDoorWay
import Derived.Test.YtpnjmifjaedfcaaDoorEq
import Derived.Test.YtpnjmifjaedfcaaDoorDoor
namespace Go.Proofs.YtpnjmifjaedfcaaDoor
open Go.ChangeShapes Go.WideShapes Go.ChangeAt Go.RowKit Go.Deep Go.Joins
set_option linter.all false
theorem ad_back {a d : Int} (ha : -1000 ≤ a ∧ a ≤ 1000) (hd : -1000 ≤ d ∧ d ≤ 1000) : ad (ad a d) (mu d (-1)) = a := by
  have h : ∀ x : Int, -10000 ≤ x → x ≤ 10000 → wrap64 x = x := fun x h1 h2 => by unfold wrap64; omega
  unfold ad mu
  rw [h (a + d) (by omega) (by omega), h (d * -1) (by omega) (by omega), h _ (by omega) (by omega)]
  omega
theorem ad_zero {a : Int} (ha : -1000 ≤ a ∧ a ≤ 1000) : ad a 0 = a := by
  unfold ad
  unfold wrap64; omega
set_option maxHeartbeats 4000000 in
theorem lawFnWayAdd_walk (A : Option Addr) (n cap : Nat) (w : World) (hB : Bytes w A n) (hc : n ≤ cap) (hn : n ≤ maxLen) (ht : Tab w) :
    Calls Tryd.prog 7 #[.slice A n cap] w fun r w' => r = .returned (.bool true) ∧ New w w' := by
  by_cases hbig : (1048576 : Int) < (n : Int)
  · go_enter Tryd.func7, Tryd.ntmps7
    go_wp2_with fail
    go_ret
    exact ⟨rfl, New.refl _⟩
  have HT := Lib.hid ht
  clear ht
  go_enter Tryd.func7, Tryd.ntmps7
  go_wp2_with fail
  refine (drawWayAdd_any A n cap _ hB hc hn).mono ?_
  rintro e w1 ⟨a, b, c, d, e, f, rfl, hab, hde, hn1⟩
  go_upto_region 4 with fail
  have h3 := (Has.new w1 #[.int .i64 a, .int .i64 b, .int .i64 c] 39).alloc (.cells #[.int .i64 d, .int .i64 e, .int .i64 f] 39)
  have h4 := Has.new (w1.alloc (.cells #[.int .i64 a, .int .i64 b, .int .i64 c] 39)) #[.int .i64 d, .int .i64 e, .int .i64 f] 39
  have hk : New w ((w1.alloc (.cells #[.int .i64 a, .int .i64 b, .int .i64 c] 39)).alloc (.cells #[.int .i64 d, .int .i64 e, .int .i64 f] 39)) := (by repeat (first | with_reducible exact New.refl _ | with_reducible assumption | with_reducible refine New.alloc ?_ _ | with_reducible refine New.drewN ?_ _ | with_reducible refine New.drew ?_ | with_reducible refine New.setCell ?_ (by first | omega | (simp; done) | (simp; omega)) _ | with_reducible refine New.tail (by assumption) ?_))
  rw [World.size_alloc] at h4
  generalize ((w1.alloc (.cells #[.int .i64 a, .int .i64 b, .int .i64 c] 39)).alloc (.cells #[.int .i64 d, .int .i64 e, .int .i64 f] 39)) = W1 at *
  have c3 := h3.cells3
  have c4 := h4.cells3
  have H1 := fun w => implWayAdd_any a b c d e f w
  have H2 := fun w => implWayAdd_any d e f a b c w
  have H3 := fun w => implWayAdd_any a b c 0 0 0 w
  have H4 := fun w => implWayTimes_any d e f (-1) w
  have H5 := fun w => implWayAdd_any (ad a d) (ad b e) (ad c f) (mu d (-1)) (mu e (-1)) (mu f (-1)) w
  have H6 := fun w => specWayAdd_any a b c d e f w
  rw [ad_comm d a, ad_comm e b, ad_comm f c] at H2
  rw [ad_zero (by omega), ad_zero (by omega), ad_zero (by omega)] at H3
  rw [ad_back (by omega) (by omega), ad_back (by omega) (by omega), ad_back (by omega) (by omega)] at H5
  clear hab hde hB hc hn hn1
  obtain ⟨x, hx⟩ : ∃ x, ad a d = x := ⟨_, rfl⟩
  obtain ⟨y, hy⟩ : ∃ x, ad b e = x := ⟨_, rfl⟩
  obtain ⟨z, hz⟩ : ∃ x, ad c f = x := ⟨_, rfl⟩
  obtain ⟨p, hp⟩ : ∃ x, mu d (-1) = x := ⟨_, rfl⟩
  obtain ⟨q, hq⟩ : ∃ x, mu e (-1) = x := ⟨_, rfl⟩
  obtain ⟨r, hr⟩ : ∃ x, mu f (-1) = x := ⟨_, rfl⟩
  rw [hx, hy, hz] at H1 H2 H5 H6
  rw [hp, hq, hr] at H4 H5
  clear hx hy hz hp hq hr h3 h4
  go_wp2_with fail
  refine (H1 _).mono ?_
  rintro e1 w2 ⟨rfl, hn2⟩
  go_upto_region 5 with fail
  have h5 := Has.new w2 #[.int .i64 x, .int .i64 y, .int .i64 z] 39
  have hk2 : New W1 (w2.alloc (.cells #[.int .i64 x, .int .i64 y, .int .i64 z] 39)) := hn2.alloc _
  generalize (w2.alloc (.cells #[.int .i64 x, .int .i64 y, .int .i64 z] 39)) = W2 at *
  have k3 := fun w' (hn : New W2 w') => c3 w' (hk2.trans hn)
  have k4 := fun w' (hn : New W2 w') => c4 w' (hk2.trans hn)
  have k5 := h5.cells3
  have HT2 := Lib.hid (HT.out.keep (hk.trans hk2))
  have q1 := way_eql
  clear c3 c4 h5 hn2
  go_region_held3 (fun w' => New W2 w') ((repeat (first | with_reducible exact New.refl _ | with_reducible assumption | with_reducible refine New.alloc ?_ _ | with_reducible refine New.drewN ?_ _ | with_reducible refine New.drew ?_ | with_reducible refine New.setCell ?_ (by first | omega | (simp; done) | (simp; omega)) _ | with_reducible refine New.tail (by assumption) ?_))) (first | (go_at_call 23; (first | with_reducible refine (H1 _).mono ?_ | with_reducible refine (H2 _).mono ?_ | with_reducible refine (H3 _).mono ?_ | with_reducible refine (H5 _).mono ?_); rintro e1 y1 ⟨rfl, hy1⟩) | (go_at_call 25; refine (H4 _).mono ?_; rintro e1 y1 ⟨rfl, hy1⟩) | (go_at_call 24; refine (H6 _).mono ?_; rintro e1 y1 ⟨rfl, hy1⟩) | (go_at_call 16; refine (alive_any _ (HT2.out.keep (by repeat (first | with_reducible exact New.refl _ | with_reducible assumption | with_reducible refine New.alloc ?_ _ | with_reducible refine New.drewN ?_ _ | with_reducible refine New.drew ?_ | with_reducible refine New.setCell ?_ (by first | omega | (simp; done) | (simp; omega)) _ | with_reducible refine New.tail (by assumption) ?_)))).mono ?_; rintro e1 y1 ⟨rfl, hy1⟩))
  have hk3 : New W2 y1 := (by repeat (first | with_reducible exact New.refl _ | with_reducible assumption | with_reducible refine New.alloc ?_ _ | with_reducible refine New.drewN ?_ _ | with_reducible refine New.drew ?_ | with_reducible refine New.setCell ?_ (by first | omega | (simp; done) | (simp; omega)) _ | with_reducible refine New.tail (by assumption) ?_))
  go_wp2_with fail
  go_ret
  exact ⟨rfl, hk.trans (hk2.trans hk3)⟩

set_option maxRecDepth 100000 in
theorem fnWayAdd_lifted (os : Os) (started : os.Started) (H : Type) (enc : TypeId × Value → H) :
    ReturnsInHanded {} Tryd.checked os 7 .any (fun w args => (Rows.fnWayAddSpec.pre enc Tryd.prog Tryd.f7 [] false w args ∧ laidMetH Tryd.prog laidL w) ∧ sizedMet enc Tryd.prog Tryd.f7 (OpenSpec.ofChange Rows.fnWayAddSpec) false w args)
      (Rows.fnWayAddSpec.post enc Tryd.prog Tryd.f7 false true false false) := by
  refine returnsInHanded_of_change_and (C := Tryd.checked) (X := fun w _ => laidMetH Tryd.prog laidL w) (fun _ _ _ hh h => h.of_heap hh) own started (by kernel_rfl) Tryd.func7
    (ChangeSpec.witness_shaped (enc := enc) (C := Tryd.checked) (os := os) (X := fun w _ => laidMetH Tryd.prog laidL w) false (World.doorLaid Tryd.prog 400 os) #[.slice none 0 0] 8 rfl (World.shaped_of_RefB (by kernel_rfl) (by kernel_rfl)) (by kernel_rfl) (by kernel_rfl) (by kernel_rfl) (laidL_met os _)) ?_
  intro W base args ds gs before hval0 hW _ _ hL _
  have hval : ∀ (j : Nat) t v, Tryd.f7.params[j]? = some t → args[j]? = some v → Value.okWide Tryd.prog W .any base t v := hval0
  have hW' := hW
  obtain ⟨p, q, hA0, hV, rfl, hfz, hnd⟩ := hW
  have hA : DataW.TrodAll enc Tryd.prog W 0 (fun _ => true) true Tryd.f7.params.toList args.toList ds p := hA0
  have hlt : ∀ x ∈ p ++ q, x.block < W.heap.size := fun x hx => hW'.lt x hx
  rw [Tryd.params7] at hA hval
  obtain ⟨v0, d0, rfl, rfl, h0⟩ := trodAll_one hA
  clear hA0 hval0
  have hL : laidMetH Tryd.prog laidL W := hL
  obtain ⟨A, n, cap, rfl, hB, hc, hn⟩ := open_bytes (hval 0 _ _ rfl rfl) h0
  refine (lawFnWayAdd_walk A n cap W hB hc hn (tab_of_laid hL)).mono fun e W' ⟨he, hg⟩ => ?_
  subst he
  exact ⟨_, rfl, law_post laidOut hW' rfl ⟨rfl, rfl, rfl⟩ (by kernel_rfl) rfl Tryd.underlying4 hg⟩

theorem fnWayAdd_over : Rows.fnWayAddRow.holds Tryd.pinned (OpenSpec.ofChange Rows.fnWayAddSpec) :=
  OpenClaim.holds_of_wide 7 Tryd.f7 rfl rfl rfl rfl rfl rfl rfl ⟨rfl, rfl, rfl, rfl, rfl⟩ rfl rfl rfl rfl rfl (by kernel_rfl) Tryd.func7 (by kernel_rfl)
    (of_decide_eq_true (by kernel_rfl)) (by unfold Func.isWrapper; first | (rw [if_pos (by decide +kernel)]; kernel_rfl) | (rw [if_neg (by decide +kernel)]; exact ⟨rfl, rfl⟩))
    (fun os started H enc _ => fnWayAdd_lifted os started H enc)

/-- The given statement. -/
theorem fnWayAdd_holds : Rows.FnWayAddCardSaid :=
  Claim7.holds_tied_plain_at .later [] [.data, .data, .data] true Rows.fnWayAddCard.stood.harness true
    fnWayAdd_over (fun _ h => by cases h) (by kernel_rfl) (fun _ h => by cases h) fnWayAdd_row_tie rfl ⟨rfl, rfl⟩ (by kernel_rfl) rfl
    (fun f fn hf hfn => by
      obtain rfl : f = 7 := Option.some.inj ((show Tryd.prog.funcNamed "loop.example/cavesurvey/laws.FnWayAdd" = some 7 by kernel_rfl).symm.trans hf) |>.symm
      obtain rfl : fn = Tryd.f7 := (Option.some.inj (Tryd.func7.symm.trans hfn)).symm
      exact ⟨by kernel_rfl, fun j t ht => by
        rw [Tryd.params7] at ht
        have hm : t ∈ Tryd.f7.params.toList := by rw [Tryd.params7]; simpa using Array.mem_of_getElem? ht
        have hall : (Tryd.f7.params.toList.all fun u => !Tryd.prog.wantsStandIn u) = true := by kernel_rfl
        exact (show Tryd.prog.wantsStandIn t = false by simpa using List.all_eq_true.1 hall t hm)⟩)
    (by kernel_rfl)

#print axioms fnWayAdd_holds
end Go.Proofs.YtpnjmifjaedfcaaDoor
