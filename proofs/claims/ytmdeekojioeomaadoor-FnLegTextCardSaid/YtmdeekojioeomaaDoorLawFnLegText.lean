/- FnLegText: whatever the code is, the law returns true and leaves it as it was. No condition. -/
import Derived.Test.YtmdeekojioeomaaDoorDrawLeg
import Derived.Test.YtmdeekojioeomaaDoorNum
import Derived.Test.YtmdeekojioeomaaDoorRdI
import Derived.Test.YtmdeekojioeomaaDoorEq
import Derived.Test.YtmdeekojioeomaaDoorDoor7
namespace Go.Proofs.YtmdeekojioeomaaDoor
open Go.ChangeShapes Go.WideShapes Go.ChangeAt Go.RowKit Go.Deep Go.Joins
set_option linter.all false
theorem reads_text {f t e n u f' t' e' n' u' : Int} {ok : Bool} (hv : legB 6 f t e n u = true) (h : Reads (ltx f t e n u) f' t' e' n' u' ok) : f = f' ∧ t = t' ∧ e = e' ∧ n = n' ∧ u = u' ∧ true = ok :=
  Reads.one (Or.inl ⟨rfl, hv, rfl⟩) h
theorem ltx_some {f t e n u : Int} (hv : legB 6 f t e n u = true) : ltx f t e n u ≠ ⟨#[]⟩ ∧ (ltx f t e n u).size ≤ 30 := by
  obtain ⟨-, -, f0, f1, t0, t1, -, e0, e1, n0, n1, u0, u1⟩ := legB_t.1 hv
  have z1 := tx_size f (by omega) (by omega)
  have z2 := tx_size t (by omega) (by omega)
  have z3 := wtx_size e n u ⟨e0, e1⟩ ⟨n0, n1⟩ ⟨u0, u1⟩
  have z4 : (⟨#[62]⟩ : ByteArray).size = 1 := rfl
  have z5 : (⟨#[58]⟩ : ByteArray).size = 1 := rfl
  rw [ltx_ok hv]
  refine ⟨fun h => ?_, by simp only [ByteArray.size_append]; omega⟩
  have := congrArg ByteArray.size h
  simp only [ByteArray.size_append] at this
  have z6 : (⟨#[]⟩ : ByteArray).size = 0 := rfl
  omega
set_option maxHeartbeats 2000000 in
set_option maxRecDepth 100000 in
theorem lawFnLegText_walk (A : Option Addr) (m cap : Nat) (w : World) (hB : Bytes w A m) (hc : m ≤ cap) (hn : m ≤ maxLen) (hE : Env w) :
    Calls Tryd.prog 3 #[.slice A m cap] w fun r w' => r = .returned (.bool true) ∧ New w w' := by
  by_cases hbig : (1048576 : Int) < (m : Int)
  · go_enter Tryd.func3, Tryd.ntmps3
    go_wp2_with fail
    go_ret
    exact ⟨rfl, New.refl _⟩
  have HE := Lib.hid hE
  clear hE
  go_enter Tryd.func3, Tryd.ntmps3
  go_wp2_with fail
  refine (drawLegText_any A m cap _ hB hc hn).mono ?_
  rintro _ w1 ⟨f, t, e, n, u, rfl, -, hn1⟩
  go_upto_region 4 with fail
  have h3 := Has.new w1 #[.int .i64 f, .int .i64 t, .int .i64 e, .int .i64 n, .int .i64 u] 24
  have hk3 : New w (w1.alloc (Obj.cells #[.int .i64 f, .int .i64 t, .int .i64 e, .int .i64 n, .int .i64 u] 24)) := (by repeat (first | with_reducible exact New.refl _ | with_reducible assumption | with_reducible refine New.alloc ?_ _ | with_reducible refine New.drewN ?_ _ | with_reducible refine New.drew ?_ | with_reducible refine New.setCell ?_ (by first | omega | (simp; done) | (simp; omega)) _ | with_reducible refine New.tail (by assumption) ?_))
  generalize (w1.alloc (Obj.cells #[.int .i64 f, .int .i64 t, .int .i64 e, .int .i64 n, .int .i64 u] 24)) = W1 at *
  obtain ⟨g3, hg3⟩ : ∃ g, w1.heap.size = g := ⟨_, rfl⟩
  rw [hg3] at h3 ⊢
  have c3 := h3.cells5
  have HE1 := Lib.hid (HE.out.keep hk3)
  have H1 := fun w' (hn : New W1 w') => implLegText_any f t e n u w' (HE1.out.keep hn).tab
  have H2 := fun w' => specLegText_any f t e n u w'
  have H3 := fun w' => implLegValid_any 6 f t e n u w'
  clear hn1 hg3 h3 hB hc hn
  cases hv : legB 6 f t e n u
  · rw [ltx_no hv] at H1 H2
    rw [hv] at H3
    clear hv
    go_wp2_with fail
    refine (H1 _ (by repeat (first | with_reducible exact New.refl _ | with_reducible assumption | with_reducible refine New.alloc ?_ _ | with_reducible refine New.drewN ?_ _ | with_reducible refine New.drew ?_ | with_reducible refine New.setCell ?_ (by first | omega | (simp; done) | (simp; omega)) _ | with_reducible refine New.tail (by assumption) ?_))).mono ?_
    rintro _ w2 ⟨rfl, hn2⟩
    go_wp2_with fail
    refine (H2 _).mono ?_
    rintro _ w3 ⟨rfl, hn3⟩
    have hk4 : New W1 w3 := hn2.trans hn3
    clear hn2 hn3
    go_wp2_with fail
    refine (H3 _).mono ?_
    rintro _ w4 ⟨rfl, hn4⟩
    have hk5 : New W1 w4 := hk4.trans hn4
    go_wp2_with fail
    refine (alive_any _ (HE1.out.keep hk5).tab).mono ?_
    rintro _ w5 ⟨rfl, hn5⟩
    go_wp2_with fail
    go_ret
    exact ⟨rfl, hk3.trans (hk5.trans hn5)⟩
  · obtain ⟨hne, hsz⟩ := ltx_some hv
    have HX := Lib.hid (fun f' t' e' n' u' ok => @reads_text f t e n u f' t' e' n' u' ok hv)
    obtain ⟨X, hX⟩ : ∃ X, ltx f t e n u = X := ⟨_, rfl⟩
    rw [hX] at H1 H2 hne hsz HX
    have hs0 := txt_some hne
    have q2 := leg_eql
    clear hv hX hne H3
    go_wp2_with fail
    refine (H1 _ (by repeat (first | with_reducible exact New.refl _ | with_reducible assumption | with_reducible refine New.alloc ?_ _ | with_reducible refine New.drewN ?_ _ | with_reducible refine New.drew ?_ | with_reducible refine New.setCell ?_ (by first | omega | (simp; done) | (simp; omega)) _ | with_reducible refine New.tail (by assumption) ?_))).mono ?_
    rintro _ w2 ⟨rfl, hn2⟩
    go_wp2_with fail
    refine (H2 _).mono ?_
    rintro _ w3 ⟨rfl, hn3⟩
    have hk4 : New W1 w3 := hn2.trans hn3
    clear hn2 hn3
    go_wp2_with fail
    refine (implReadLeg_any X _ (HE1.out.keep hk4) (by omega)).mono ?_
    rintro _ w4 ⟨f', t', e', n', u', ok', rfl, hR, hn4⟩
    obtain ⟨rfl, rfl, rfl, rfl, rfl, rfl⟩ := HX.out _ _ _ _ _ _ hR
    have hk5 : New W1 w4 := hk4.trans hn4
    have c4 := fun w' (hn : New w4 w') => c3 w' (hk5.trans hn)
    clear c3 HX hR hk4 hn4
    go_wp2_with fail
    go_ret
    exact ⟨rfl, hk3.trans (by repeat (first | with_reducible exact New.refl _ | with_reducible assumption | with_reducible refine New.alloc ?_ _ | with_reducible refine New.drewN ?_ _ | with_reducible refine New.drew ?_ | with_reducible refine New.setCell ?_ (by first | omega | (simp; done) | (simp; omega)) _ | with_reducible refine New.tail (by assumption) ?_))⟩

set_option maxRecDepth 100000 in
theorem fnLegText_lifted (os : Os) (started : os.Started) (H : Type) (enc : TypeId × Value → H) :
    ReturnsInHanded {} Tryd.checked os 3 .any (fun w args => (Rows.fnLegTextSpec.pre enc Tryd.prog Tryd.f3 [] false w args ∧ laidMetH Tryd.prog laid7 w) ∧ sizedMet enc Tryd.prog Tryd.f3 (OpenSpec.ofChange Rows.fnLegTextSpec) false w args)
      (Rows.fnLegTextSpec.post enc Tryd.prog Tryd.f3 false true false false) := by
  refine handed_shaped (C := Tryd.checked) (L := laid7) own started (by kernel_rfl) Tryd.func3
    (ChangeSpec.witness_shaped (enc := enc) (C := Tryd.checked) (os := os) (X := fun w _ => laidMetH Tryd.prog laid7 w) false (World.laidAll Tryd.prog os laid7) #[.slice none 0 0] 8 (World.laidAll_os _ _ _) (World.shaped_of_ZipB (by kernel_rfl) (by kernel_rfl)) (by kernel_rfl) (by kernel_rfl) (by kernel_rfl) (laid7_met os _)) ?_
  intro W base args ds gs before hval0 hW hsh hL
  have hval : ∀ (j : Nat) t v, Tryd.f3.params[j]? = some t → args[j]? = some v → Value.okWide Tryd.prog W .any base t v := hval0
  have hW' := hW
  obtain ⟨p, q, hA0, hV, rfl, hfz, hnd⟩ := hW
  have hA : DataW.TrodAll enc Tryd.prog W 0 (fun _ => true) true Tryd.f3.params.toList args.toList ds p := hA0
  have hlt : ∀ x ∈ p ++ q, x.block < W.heap.size := fun x hx => hW'.lt x hx
  rw [Tryd.params3] at hA hval
  obtain ⟨v0, d0, rfl, rfl, h0⟩ := trodAll_one hA
  clear hA0 hval0
  have hE : Env W := env_of hL hsh
  obtain ⟨A, n, cap, rfl, hB, hc, hn⟩ := open_bytes (hval 0 _ _ rfl rfl) h0
  refine (lawFnLegText_walk A n cap W hB hc hn hE).mono fun e W' ⟨he, hg⟩ => ?_
  subst he
  exact ⟨_, rfl, law_post laidOut hW' rfl ⟨rfl, rfl, rfl⟩ (by kernel_rfl) rfl Tryd.underlying4 hg⟩

theorem fnLegText_over : Rows.fnLegTextRow.holds Tryd.pinned (OpenSpec.ofChange Rows.fnLegTextSpec) :=
  OpenClaim.holds_of_wide 3 Tryd.f3 rfl rfl rfl rfl rfl rfl rfl ⟨rfl, rfl, rfl, rfl, rfl⟩ rfl rfl rfl rfl rfl (by kernel_rfl) Tryd.func3 (by kernel_rfl)
    (of_decide_eq_true (by kernel_rfl)) (by unfold Func.isWrapper; first | (rw [if_pos (by decide +kernel)]; kernel_rfl) | (rw [if_neg (by decide +kernel)]; exact ⟨rfl, rfl⟩))
    (fun os started H enc _ => fnLegText_lifted os started H enc)

/-- The given statement. -/
theorem fnLegText_holds : Rows.FnLegTextCardSaid :=
  Claim7.holds_tied_plain_at .later [] [.data, .data, .data, .data, .sentinel, .sentinel, .pinned] true Rows.fnLegTextCard.stood.harness Rows.fnLegTextCard.stood.looks
    fnLegText_over (fun _ h => by cases h) (by kernel_rfl) (fun _ h => by cases h) fnLegText_row_tie rfl ⟨rfl, rfl⟩ (by kernel_rfl) rfl
    (fun f fn hf hfn => by
      obtain rfl : f = 3 := Option.some.inj ((show Tryd.prog.funcNamed "loop.example/cavesurvey/laws.FnLegText" = some 3 by kernel_rfl).symm.trans hf) |>.symm
      obtain rfl : fn = Tryd.f3 := (Option.some.inj (Tryd.func3.symm.trans hfn)).symm
      exact ⟨by kernel_rfl, fun j t ht => by
        rw [Tryd.params3] at ht
        have hm : t ∈ Tryd.f3.params.toList := by rw [Tryd.params3]; simpa using Array.mem_of_getElem? ht
        have hall : (Tryd.f3.params.toList.all fun u => !Tryd.prog.wantsStandIn u) = true := by kernel_rfl
        exact (show Tryd.prog.wantsStandIn t = false by simpa using List.all_eq_true.1 hall t hm)⟩)
    (by kernel_rfl)

#print axioms fnLegText_holds
end Go.Proofs.YtmdeekojioeomaaDoor
