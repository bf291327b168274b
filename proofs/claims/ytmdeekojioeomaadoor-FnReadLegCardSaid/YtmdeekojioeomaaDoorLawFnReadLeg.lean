/- FnReadLeg: whatever the code is, the law returns true and leaves it as it was. No condition. -/
import Derived.Test.YtmdeekojioeomaaDoorDrawTxt
import Derived.Test.YtmdeekojioeomaaDoorRdS
import Derived.Test.YtmdeekojioeomaaDoorEq
import Derived.Test.YtmdeekojioeomaaDoorDoor7
namespace Go.Proofs.YtmdeekojioeomaaDoor
open Go.ChangeShapes Go.WideShapes Go.ChangeAt Go.RowKit Go.Deep Go.Joins
set_option linter.all false
theorem reads_false {s : ByteArray} {f t e n u : Int} (h : Reads s f t e n u false) : f = 0 ∧ t = 0 ∧ e = 0 ∧ n = 0 ∧ u = 0 := by
  rcases h with ⟨h, _⟩ | ⟨-, h1, h2, h3, h4, h5, -⟩
  · cases h
  · exact ⟨h1, h2, h3, h4, h5⟩
theorem reads_true {s : ByteArray} {f t e n u : Int} (h : Reads s f t e n u true) : ltx f t e n u = s := by
  rcases h with ⟨-, -, h⟩ | ⟨h, _⟩
  · exact h
  · cases h
theorem reads_comma {s : ByteArray} {f t e n u : Int} {ok : Bool} (h : Reads (s ++ ⟨#[44]⟩) f t e n u ok) : ok = false := by
  rcases h with ⟨-, hv, h⟩ | ⟨h, _⟩
  · exact absurd h (ltx_comma hv s)
  · exact h
set_option maxHeartbeats 2000000 in
set_option maxRecDepth 100000 in
theorem lawFnReadLeg_walk (A : Option Addr) (m cap : Nat) (w : World) (hB : Bytes w A m) (hc : m ≤ cap) (hn : m ≤ maxLen) (hE : Env w) :
    Calls Tryd.prog 5 #[.slice A m cap] w fun r w' => r = .returned (.bool true) ∧ New w w' := by
  by_cases hbig : (1048576 : Int) < (m : Int)
  · go_enter Tryd.func5, Tryd.ntmps5
    go_wp2_with fail
    go_ret
    exact ⟨rfl, New.refl _⟩
  have HE := Lib.hid hE
  clear hE
  have q3 := leg_neq
  have q2 := leg_eql
  go_enter Tryd.func5, Tryd.ntmps5
  go_wp2_with fail
  refine (drawReadLeg_any A m cap _ hB hc hn).mono ?_
  rintro _ w1 ⟨s, rfl, hs, hn1⟩
  clear hB hc hn
  go_wp2_with fail
  refine (implReadLeg_any s _ (HE.out.keep hn1) (by omega)).mono ?_
  rintro _ w2 ⟨f, t, e, n, u, ok, rfl, hR1, hn2⟩
  go_upto_region 5 with fail
  have h3 := Has.new w2 #[.int .i64 f, .int .i64 t, .int .i64 e, .int .i64 n, .int .i64 u] 24
  have hk3 : New w (w2.alloc (Obj.cells #[.int .i64 f, .int .i64 t, .int .i64 e, .int .i64 n, .int .i64 u] 24)) := (hn1.trans hn2).alloc _
  generalize (w2.alloc (Obj.cells #[.int .i64 f, .int .i64 t, .int .i64 e, .int .i64 n, .int .i64 u] 24)) = W2 at *
  obtain ⟨g3, hg3⟩ : ∃ g, w2.heap.size = g := ⟨_, rfl⟩
  rw [hg3] at h3 ⊢
  have c3 := h3.cells5
  clear hn1 hn2 hg3 h3
  go_wp2_with fail
  refine (specReadLeg_any s _ (by omega)).mono ?_
  rintro _ w3 ⟨f', t', e', n', u', ok', rfl, hR2, hn3⟩
  obtain ⟨rfl, rfl, rfl, rfl, rfl, rfl⟩ := hR1.one hR2
  go_upto_region 6 with fail
  have h5 := Has.new w3 #[.int .i64 f, .int .i64 t, .int .i64 e, .int .i64 n, .int .i64 u] 24
  have hk4 : New W2 (w3.alloc (Obj.cells #[.int .i64 f, .int .i64 t, .int .i64 e, .int .i64 n, .int .i64 u] 24)) := hn3.alloc _
  generalize (w3.alloc (Obj.cells #[.int .i64 f, .int .i64 t, .int .i64 e, .int .i64 n, .int .i64 u] 24)) = W3 at *
  obtain ⟨g5, hg5⟩ : ∃ g, w3.heap.size = g := ⟨_, rfl⟩
  rw [hg5] at h5 ⊢
  have c5 := h5.cells5
  have k3 := fun w' (hn : New W3 w') => c3 w' (hk4.trans hn)
  have hk5 : New w W3 := hk3.trans hk4
  have HE3 := Lib.hid (HE.out.keep hk5)
  clear hn3 hg5 h5 c3 hk3 hk4 HE hR2
  cases ok
  · obtain ⟨rfl, rfl, rfl, rfl, rfl⟩ := reads_false hR1
    clear hR1
    go_wp2_with fail
    refine (alive_any _ (HE3.out.keep (by repeat (first | with_reducible exact New.refl _ | with_reducible assumption | with_reducible refine New.alloc ?_ _ | with_reducible refine New.drewN ?_ _ | with_reducible refine New.drew ?_ | with_reducible refine New.setCell ?_ (by first | omega | (simp; done) | (simp; omega)) _ | with_reducible refine New.tail (by assumption) ?_))).tab).mono ?_
    rintro _ w5 ⟨rfl, hn5⟩
    go_wp2_with fail
    go_ret
    exact ⟨rfl, hk5.trans (by repeat (first | with_reducible exact New.refl _ | with_reducible assumption | with_reducible refine New.alloc ?_ _ | with_reducible refine New.drewN ?_ _ | with_reducible refine New.drew ?_ | with_reducible refine New.setCell ?_ (by first | omega | (simp; done) | (simp; omega)) _ | with_reducible refine New.tail (by assumption) ?_))⟩
  · have HT := fun w' (hn : New W3 w') => implLegText_any f t e n u w' (HE3.out.keep hn).tab
    rw [reads_true hR1] at HT
    have z1 : (⟨#[44]⟩ : ByteArray).size = 1 := rfl
    have hcs : (s ++ ⟨#[44]⟩ : ByteArray).size ≤ 2000000 := by simp only [ByteArray.size_append]; omega
    have s1 : ¬ (9223372036854775807 < s.size + 1) := by omega
    have HC : Hid (∀ f t e n u ok, Reads (s ++ ⟨#[44]⟩) f t e n u ok → ok = false) := fun f t e n u ok h => reads_comma h
    have HI := fun w' (hn : New W3 w') => implReadLeg_any (s ++ ⟨#[44]⟩) w' (HE3.out.keep hn) hcs
    clear hR1 hcs z1
    go_wp2_with fail
    refine (HI _ (by repeat (first | with_reducible exact New.refl _ | with_reducible assumption | with_reducible refine New.alloc ?_ _ | with_reducible refine New.drewN ?_ _ | with_reducible refine New.drew ?_ | with_reducible refine New.setCell ?_ (by first | omega | (simp; done) | (simp; omega)) _ | with_reducible refine New.tail (by assumption) ?_))).mono ?_
    rintro _ w5 ⟨f', t', e', n', u', ok', rfl, hR, hn5⟩
    obtain rfl := HC.out _ _ _ _ _ _ hR
    go_upto_region 11 with fail
    have hk6 : New W3 (w5.alloc (Obj.cells #[.int .i64 f', .int .i64 t', .int .i64 e', .int .i64 n', .int .i64 u'] 24)) := (by repeat (first | with_reducible exact New.refl _ | with_reducible assumption | with_reducible refine New.alloc ?_ _ | with_reducible refine New.drewN ?_ _ | with_reducible refine New.drew ?_ | with_reducible refine New.setCell ?_ (by first | omega | (simp; done) | (simp; omega)) _ | with_reducible refine New.tail (by assumption) ?_))
    generalize (w5.alloc (Obj.cells #[.int .i64 f', .int .i64 t', .int .i64 e', .int .i64 n', .int .i64 u'] 24)) = W6 at *
    have m3 := fun w' (hn : New W6 w') => k3 w' (hk6.trans hn)
    clear k3 c5 hR HC HI hn5
    go_wp2_with fail
    refine (HT _ (by repeat (first | with_reducible exact New.refl _ | with_reducible assumption | with_reducible refine New.alloc ?_ _ | with_reducible refine New.drewN ?_ _ | with_reducible refine New.drew ?_ | with_reducible refine New.setCell ?_ (by first | omega | (simp; done) | (simp; omega)) _ | with_reducible refine New.tail (by assumption) ?_))).mono ?_
    rintro _ w7 ⟨rfl, hn7⟩
    go_wp2_with fail
    go_ret
    exact ⟨rfl, hk5.trans (hk6.trans hn7)⟩

set_option maxRecDepth 100000 in
theorem fnReadLeg_lifted (os : Os) (started : os.Started) (H : Type) (enc : TypeId × Value → H) :
    ReturnsInHanded {} Tryd.checked os 5 .any (fun w args => (Rows.fnReadLegSpec.pre enc Tryd.prog Tryd.f5 [] false w args ∧ laidMetH Tryd.prog laid7 w) ∧ sizedMet enc Tryd.prog Tryd.f5 (OpenSpec.ofChange Rows.fnReadLegSpec) false w args)
      (Rows.fnReadLegSpec.post enc Tryd.prog Tryd.f5 false true false false) := by
  refine handed_shaped (C := Tryd.checked) (L := laid7) own started (by kernel_rfl) Tryd.func5
    (ChangeSpec.witness_shaped (enc := enc) (C := Tryd.checked) (os := os) (X := fun w _ => laidMetH Tryd.prog laid7 w) false (World.laidAll Tryd.prog os laid7) #[.slice none 0 0] 8 (World.laidAll_os _ _ _) (World.shaped_of_ZipB (by kernel_rfl) (by kernel_rfl)) (by kernel_rfl) (by kernel_rfl) (by kernel_rfl) (laid7_met os _)) ?_
  intro W base args ds gs before hval0 hW hsh hL
  have hval : ∀ (j : Nat) t v, Tryd.f5.params[j]? = some t → args[j]? = some v → Value.okWide Tryd.prog W .any base t v := hval0
  have hW' := hW
  obtain ⟨p, q, hA0, hV, rfl, hfz, hnd⟩ := hW
  have hA : DataW.TrodAll enc Tryd.prog W 0 (fun _ => true) true Tryd.f5.params.toList args.toList ds p := hA0
  have hlt : ∀ x ∈ p ++ q, x.block < W.heap.size := fun x hx => hW'.lt x hx
  rw [Tryd.params5] at hA hval
  obtain ⟨v0, d0, rfl, rfl, h0⟩ := trodAll_one hA
  clear hA0 hval0
  have hE : Env W := env_of hL hsh
  obtain ⟨A, n, cap, rfl, hB, hc, hn⟩ := open_bytes (hval 0 _ _ rfl rfl) h0
  refine (lawFnReadLeg_walk A n cap W hB hc hn hE).mono fun e W' ⟨he, hg⟩ => ?_
  subst he
  exact ⟨_, rfl, law_post laidOut hW' rfl ⟨rfl, rfl, rfl⟩ (by kernel_rfl) rfl Tryd.underlying4 hg⟩

theorem fnReadLeg_over : Rows.fnReadLegRow.holds Tryd.pinned (OpenSpec.ofChange Rows.fnReadLegSpec) :=
  OpenClaim.holds_of_wide 5 Tryd.f5 rfl rfl rfl rfl rfl rfl rfl ⟨rfl, rfl, rfl, rfl, rfl⟩ rfl rfl rfl rfl rfl (by kernel_rfl) Tryd.func5 (by kernel_rfl)
    (of_decide_eq_true (by kernel_rfl)) (by unfold Func.isWrapper; first | (rw [if_pos (by decide +kernel)]; kernel_rfl) | (rw [if_neg (by decide +kernel)]; exact ⟨rfl, rfl⟩))
    (fun os started H enc _ => fnReadLeg_lifted os started H enc)

/-- The given statement. -/
theorem fnReadLeg_holds : Rows.FnReadLegCardSaid :=
  Claim7.holds_tied_plain_at .later [] [.data, .data, .data, .data, .sentinel, .sentinel, .pinned] true Rows.fnReadLegCard.stood.harness Rows.fnReadLegCard.stood.looks
    fnReadLeg_over (fun _ h => by cases h) (by kernel_rfl) (fun _ h => by cases h) fnReadLeg_row_tie rfl ⟨rfl, rfl⟩ (by kernel_rfl) rfl
    (fun f fn hf hfn => by
      obtain rfl : f = 5 := Option.some.inj ((show Tryd.prog.funcNamed "loop.example/cavesurvey/laws.FnReadLeg" = some 5 by kernel_rfl).symm.trans hf) |>.symm
      obtain rfl : fn = Tryd.f5 := (Option.some.inj (Tryd.func5.symm.trans hfn)).symm
      exact ⟨by kernel_rfl, fun j t ht => by
        rw [Tryd.params5] at ht
        have hm : t ∈ Tryd.f5.params.toList := by rw [Tryd.params5]; simpa using Array.mem_of_getElem? ht
        have hall : (Tryd.f5.params.toList.all fun u => !Tryd.prog.wantsStandIn u) = true := by kernel_rfl
        exact (show Tryd.prog.wantsStandIn t = false by simpa using List.all_eq_true.1 hall t hm)⟩)
    (by kernel_rfl)

#print axioms fnReadLeg_holds
end Go.Proofs.YtmdeekojioeomaaDoor
