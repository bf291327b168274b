/- FnExactSolve: whatever the matrix and the numbers are, the law returns true and leaves them as they were. No condition. -/
import Derived.Test.YtmopbghngaeplaaSolve
import Derived.Test.YtmopbghngaeplaaMarkM
namespace Go.Proofs.Ytmopbghngaeplaa
open Go.ChangeShapes Go.WideShapes Go.ChangeAt Go.RowKit Go.Deep Go.Joins
set_option linter.all false
set_option maxHeartbeats 1000000 in
theorem markIntS_row2 (g ca : Nat) (l : List Int) (k0 : Int) (w : World) (h : Ints w g l) (hm : l.length ≤ 1099511627776) (h0 : 0 ≤ k0) (h1 : k0 ≤ 2199023255552) :
    Calls Try.prog 47 #[.slice (some ⟨g, 0, none⟩) l.length ca, .int .i64 k0] w fun r w' => r = .returned (.int .i64 (k0 + l.length)) ∧ Only g w w' ∧ Ints w' g (mkL k0 l.length) := by
  go_enter Try.func47, Try.ntmps47
  go_wp2_with fail
  go_loopw [5, 1] (fun i v wr => ∃ k : Nat, k ≤ l.length ∧ i = .int .i64 k ∧ v = .int .i64 (k0 + k) ∧ Only g w wr ∧ Ints wr g (mkTo k0 l k)) (fun i _ _ => l.length - (intOf i).toNat)
  case atStart => exact ⟨0, Nat.zero_le _, rfl, by simp, Only.refl _ _, by rw [mkTo_zero]; exact h⟩
  case round =>
    obtain ⟨k, hk, rfl, rfl, hw, hi⟩ := hrel
    by_cases hlt : k < l.length
    · have Hset := Lib.hid (mkTo_set k0 l k hlt)
      obtain ⟨x, hx⟩ : ∃ x, (mkTo k0 l k)[k]? = some x := ⟨_, List.getElem?_eq_getElem (by rw [mkTo_len _ _ _ (by omega)]; exact hlt)⟩
      have c1 := hi.cell hx
      have f1 := hi.free
      clear hx
      go_wp2_with fail
      go_roundw
      case rel => exact ⟨k + 1, by omega, by go_num, by go_num, hw.setCell rfl _, by rw [← Hset.out]; exact hi.set k _⟩
      case measure => simp [intOf]; omega
    · obtain rfl : k = l.length := by omega
      go_wp2_with fail
      go_ret
      exact ⟨rfl, hw, by rw [← mkTo_all]; exact hi⟩

theorem FInts.mid {w0 w w' : World} {A : Option Addr} {l : List Int} {lo hi : Nat} (h : FInts w0 w A l) (ho : Mid lo hi w w') (hg : hi ≤ w0.heap.size) : FInts w0 w' A l := fun hne => by
  obtain ⟨b, e, hb, hi'⟩ := h hne
  exact ⟨b, e, hb, hi'.mid ho (.inr (by omega))⟩
theorem open_intsArg {H : Type} {enc : TypeId × Value → H} {w : World} {base : Nat} {spare : Nat → Bool} {held : Bool} {r : Reach} {b0 : Nat} {v : Value} {d : DataW H} {p : List MemPlace}
    (hv : Value.okWide Try.prog w r b0 58 v) (h : DataW.Trod enc Try.prog w base spare held 58 v d p) :
    ∃ (A : Option Addr) (cap : Nat) (l : List Int), v = .slice A l.length cap ∧ IntsAt w A l ∧ l.length ≤ maxLen := by
  obtain ⟨a0, len, cap, rfl⟩ := okWide_slice Try.underlying58 hv
  obtain ⟨fuel, hf⟩ := h
  exact open_intsAt Try.underlying58 Try.underlying3 (by kernel_rfl) hf
set_option maxHeartbeats 8000000 in
theorem lawSolve_walk (A B : Option Addr) (cap capB : Nat) (M : List (List Int)) (R : List Int) (w : World) (hM : MatAt w A M) (hm : M.length ≤ maxLen) (hr : ∀ r ∈ M, r.length ≤ maxLen) (hB : IntsAt w B R) (hR : R.length ≤ maxLen) :
    Calls Try.prog 12 #[.slice A M.length cap, .slice B R.length capB] w fun r w' => r = .returned (.bool true) ∧ New w w' := by
  have HR := Lib.hid hr
  clear hr
  by_cases hbig : (1048576 : Int) < (R.length : Int)
  · go_enter Try.func12, Try.ntmps12
    go_wp2_with fail
    go_ret
    exact ⟨rfl, New.refl _⟩
  have hRl : R.length ≤ 1048576 := by omega
  clear hR
  go_enter Try.func12, Try.ntmps12
  go_wp2_with fail
  refine (szIntSS_any _ _ _ _ hM hm HR.out).mono ?_
  rintro e w1 ⟨hn1, rfl | ⟨z, hz0, rfl, hz1, hs, hrs⟩⟩
  · go_wp2_with fail
    go_ret
    exact ⟨rfl, hn1⟩
  have hs' : M.length ≤ 1099511627776 := by omega
  have hR' : R.length ≤ 1099511627776 := by omega
  have HRB := Lib.hid hrs
  have HRS : Hid (∀ r ∈ M, r.length ≤ 1099511627776) := fun r h => Nat.le_trans (hrs r h) (by omega)
  have hS := solS_small M R
  obtain ⟨S, hSe⟩ : ∃ S, solS M R = S := ⟨_, rfl⟩
  obtain ⟨D, hDe⟩ : ∃ D, solD M R = D := ⟨_, rfl⟩
  have HS := Lib.hid (And.intro hSe hDe)
  rw [hSe] at hS
  have hS' : S.length ≤ 1099511627776 := by omega
  have hDD : (D != D) = false := by simp
  have htot : tot M M.length ≤ 1099511627776 := by
    have h1 := tot_le HRB.out M.length (Nat.le_refl _)
    have h2 : M.length * 1048576 ≤ 1048576 * 1048576 := Nat.mul_le_mul_right _ hs
    omega
  clear hrs HR hm hSe hDe
  go_wp2_with fail
  refine (toIntSS_any _ _ _ _ (hM.keep hn1) hs' HRS.out).mono ?_
  rintro e w2 ⟨g2, rfl, hF2, hn2⟩
  go_wp2_with fail
  refine (toIntS_any _ _ _ _ _ rfl (hB.keep (hn1.trans hn2)) hR').mono ?_
  rintro e w3 ⟨g3, rfl, hg3, hI3, hn3⟩
  go_wp2_with fail
  refine (specSolve_any _ _ _ _ _ _ _ _ rfl (hF2.readsC.keep hn3) hI3.reads hs' HRS.out hR').mono ?_
  rw [HS.out.1, HS.out.2]
  rintro e w4 ⟨C0, cp0, rfl, hF0, hn4⟩
  have hW := hF0.reads
  have hk4 := hn1.trans (hn2.trans (hn3.trans hn4))
  clear hF2 hI3 hF0 hn2 hn3 hn4 hn1 hg3
  go_wp2_with fail
  refine (toIntSS_any _ _ _ _ (hM.keep hk4) hs' HRS.out).mono ?_
  rintro e w5 ⟨g5, rfl, hF5, hn5⟩
  go_wp2_with fail
  refine (toIntS_any _ _ _ _ _ rfl (hB.keep (hk4.trans hn5)) hR').mono ?_
  rintro e w6 ⟨g6, rfl, hg6, hI6, hn6⟩
  have hl6 := hI6.lt
  go_wp2_with fail
  refine (implSolve_any _ _ _ _ _ _ _ _ rfl (hF5.reads.keep hn6) hI6.reads hs' HRS.out hR').mono ?_
  rw [HS.out.1, HS.out.2]
  rintro e w7 ⟨C1, cp1, rfl, hF7, hn7⟩
  have hX := hF5.in_.keep (hn6.trans hn7)
  have hI7 := hI6.keep hn7
  have hz5 := hn5.size
  have hz6 := hn6.size
  have hz7 := hn7.size
  have hk7 : New w4 w7 := hn5.trans (hn6.trans hn7)
  clear hF5 hI6 hn5 hn6 hn7
  go_wp2_with fail
  refine (eqIntS_same _ _ _ _ _ _ _ rfl hF7.reads (hW.keep hk7) hS').mono ?_
  rintro e w8 ⟨rfl, hn8⟩
  go_wp2_with fail
  refine (toIntSS_any _ _ _ _ (hM.keep (hk4.trans (hk7.trans hn8))) hs' HRS.out).mono ?_
  rintro e w9 ⟨g9, rfl, hF9, hn9⟩
  go_wp2_with fail
  refine (eqIntSS_same _ _ _ _ _ _ _ rfl (hX.keep (hn8.trans hn9)).reads hF9.reads hs' HRS.out).mono ?_
  rintro e w10 ⟨rfl, hn10⟩
  have hn810 := hn8.trans (hn9.trans hn10)
  go_wp2_with fail
  refine (toIntS_any _ _ _ _ _ rfl (hB.keep (hk4.trans (hk7.trans hn810))) hR').mono ?_
  rintro e w11 ⟨g11, rfl, hg11, hI11, hn11⟩
  go_wp2_with fail
  refine (eqIntS_same _ _ _ _ _ _ _ rfl (hI7.keep (hn810.trans hn11)).reads hI11.reads hR').mono ?_
  rintro e w12 ⟨rfl, hn12⟩
  have hn712 := hn810.trans (hn11.trans hn12)
  have hz12 := hn712.size
  have hk12 := hk7.trans hn712
  have hX12 := hX.keep hn712
  have hI12 := hI7.keep hn712
  have hF12 := hF7.keep hn712
  clear hF9 hI11 hX hI7 hF7 hn8 hn9 hn10 hn11 hn12 hn810 hg11
  go_wp2_with fail
  refine (markIntSS_any _ _ _ _ _ _ _ rfl hX12 hs HRB.out).mono ?_
  rintro e w13 ⟨rfl, hm13, -⟩
  have hz13 := hm13.size
  have hk13 : New w4 w13 := New.mid hk12 hm13 (Nat.le_refl _) (by omega)
  have hI13 := hI12.mid hm13 (.inr hg6)
  have hF13 := hF12.mid hm13 hz6
  clear hX12 hI12 hF12 hm13
  go_wp2_with fail
  refine (markIntS_row2 _ _ _ _ _ hI13 hR' (by omega) (by omega)).mono ?_
  rintro e w14 ⟨rfl, ho14, -⟩
  have hz14 := ho14.size
  have hk14 : New w4 w14 := New.only hk13 ho14 (by omega)
  have hF14 := hF13.only ho14 hl6
  have hneg1 : ¬ (1 + (tot M M.length : Int) + (R.length : Int)) < 0 := by omega
  clear hI13 hF13 ho14
  go_wp2_with fail
  refine (eqIntS_same _ _ _ _ _ _ _ rfl hF14.reads (hW.keep hk14) hS').mono ?_
  rintro e w15 ⟨rfl, hn15⟩
  have hz15 := hn15.size
  have hk15 := hk14.trans hn15
  go_wp2_with fail
  refine (markIntS_at _ _ _ _ _ _ _ rfl (hF14.keep hn15) (by omega) hS' (by omega) (by omega)).mono ?_
  rintro e w16 ⟨rfl, hb16, hF16⟩
  have hk16 : New w4 w16 := hk15.below hb16 (by omega)
  clear hF14 hn15 hb16
  have hneg2 : ¬ (1 + (S.length : Int)) < 0 := by omega
  have hne2 : ((1 + (S.length : Int)) != (1 + (S.length : Int))) = false := by simp
  go_wp2_with fail
  refine (heldIntS_any _ _ _ _ _ hF16.reads hS' (by omega) (by omega)).mono ?_
  rintro e w17 ⟨rfl, hn17⟩
  have hk17 := hk16.trans hn17
  go_wp2_with fail
  refine (toIntSS_any _ _ _ _ (hM.keep (hk4.trans hk17)) hs' HRS.out).mono ?_
  rintro e w18 ⟨g18, rfl, hF18, hn18⟩
  go_wp2_with fail
  refine (toIntS_any _ _ _ _ _ rfl (hB.keep (hk4.trans (hk17.trans hn18))) hR').mono ?_
  rintro e w19 ⟨g19, rfl, hg19, hI19, hn19⟩
  go_wp2_with fail
  refine (implSolve_any _ _ _ _ _ _ _ _ rfl (hF18.reads.keep hn19) hI19.reads hs' HRS.out hR').mono ?_
  rw [HS.out.1, HS.out.2]
  rintro e w20 ⟨C2, cp2, rfl, hF20, hn20⟩
  have hk20 : New w16 w20 := hn17.trans (hn18.trans (hn19.trans hn20))
  clear hF18 hI19 hn17 hn18 hn19 hn20
  go_wp2_with fail
  refine (eqIntS_same _ _ _ _ _ _ _ rfl hF20.reads (hW.keep (hk16.trans hk20)) hS').mono ?_
  rintro e w21 ⟨rfl, hn21⟩
  go_wp2_with fail
  refine (heldIntS_any _ _ _ _ _ (hF16.keep (hk20.trans hn21)).reads hS' (by omega) (by omega)).mono ?_
  rintro e w22 ⟨rfl, hn22⟩
  go_wp2_with fail
  go_ret
  exact ⟨rfl, hk4.trans (hk16.trans (hk20.trans (hn21.trans hn22)))⟩

set_option maxRecDepth 100000 in
theorem fnExactSolve_lifted (os : Os) (started : os.Started) (H : Type) (enc : TypeId × Value → H) :
    ReturnsInHanded {} Try.checked os 12 .any (Rows.fnExactSolveSpec.pre6 enc Try.prog Try.f12 Rows.fnExactSolveRow.domain false) (Rows.fnExactSolveSpec.post enc Try.prog Try.f12 false true false false) := by
  refine returnsInHanded_of_change (C := Try.checked) own started (by kernel_rfl) Try.func12
    (ChangeSpec.witness6 (enc := enc) (C := Try.checked) false ⟨#[], #[.slice none 0 0, .slice none 0 0], []⟩ 8 (by kernel_rfl) (by kernel_rfl) (by kernel_rfl) (by kernel_rfl)) ?_
  intro W base args ds gs before hval0 hW hcnd _
  have hval : ∀ (j : Nat) t v, Try.f12.params[j]? = some t → args[j]? = some v → Value.okWide Try.prog W .any base t v := hval0
  have hW' := hW
  obtain ⟨p, q, hA0, hV, rfl, hfz, hnd⟩ := hW
  have hA : DataW.TrodAll enc Try.prog W 0 (fun _ => true) true Try.f12.params.toList args.toList ds p := hA0
  have hlt : ∀ x ∈ p ++ q, x.block < W.heap.size := fun x hx => hW'.lt x hx
  rw [Try.params12] at hA hval
  obtain ⟨v0, v1, d0, d1, p0, p1, rfl, rfl, rfl, h0, h1⟩ := trodAll_two hA
  clear hA0 hval0
  obtain ⟨A, cap, M, rfl, hM, hm, hr⟩ := open_matArg (hval 0 _ _ rfl rfl) h0
  obtain ⟨B, capB, R, rfl, hB, hR⟩ := open_intsArg (hval 1 _ _ rfl rfl) h1
  refine (lawSolve_walk A B cap capB M R W hM hm hr hB hR).mono fun e W' ⟨he, hg⟩ => ?_
  subst he
  exact ⟨_, rfl, law_post laidOut hW' rfl ⟨rfl, rfl, rfl⟩ (by kernel_rfl) rfl Try.underlying4 hg⟩

theorem fnExactSolve_over : Rows.fnExactSolveRow.holds Try.pinned (OpenSpec.ofChange Rows.fnExactSolveSpec) :=
  OpenClaim.holds_of_wide 12 Try.f12 rfl rfl rfl rfl rfl rfl rfl ⟨rfl, rfl, rfl, rfl, rfl⟩ rfl rfl rfl rfl rfl (by kernel_rfl) Try.func12 (by kernel_rfl)
    (of_decide_eq_true (by kernel_rfl)) (by unfold Func.isWrapper; rw [if_neg (by decide +kernel)]; exact ⟨rfl, rfl⟩)
    (fun os started H enc _ => fnExactSolve_lifted os started H enc)

/-- The given statement. -/
theorem fnExactSolve_holds : Rows.FnExactSolveSaid := fnExactSolve_over

#print axioms fnExactSolve_holds
end Go.Proofs.Ytmopbghngaeplaa
