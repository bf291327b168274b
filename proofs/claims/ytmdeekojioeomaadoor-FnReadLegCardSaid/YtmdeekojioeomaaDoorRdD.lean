/- Contracts of l1Digits and l1Read. -/
import Derived.Test.YtmdeekojioeomaaDoorTxt
namespace Go.Proofs.YtmdeekojioeomaaDoor
open Go.RowKit
set_option linter.all false
theorem ix_run (s : ByteArray) (k : Nat) (x : UInt8) (h : (bs s)[k]? = some x) : ∀ wx : World, (Instr.index 9 (.string s) (.int .i64 (k : Int))).run Tryd.prog wx = .ok (.int .u8 (x.toNat : Int)) wx := by
  intro wx
  have hk : k < s.size := by
    rw [bs_size]
    exact (List.getElem?_eq_some_iff.1 h).1
  have hx : s[k]'hk = x := by
    have h2 := (List.getElem?_eq_some_iff.1 h).2
    rw [← h2]
    rfl
  rw [run_index_string wx 9 s .i64 (k : Int) Tryd.underlying9, dif_pos ⟨by omega, by omega⟩]
  simp only [Int.toNat_natCast]
  rw [hx]
theorem ix_run0 (s : ByteArray) (x : UInt8) (h : (bs s)[0]? = some x) : ∀ wx : World, (Instr.index 9 (.string s) (.int .i64 0)).run Tryd.prog wx = .ok (.int .u8 (x.toNat : Int)) wx := ix_run s 0 x h
theorem dgL_bad {s : ByteArray} (h : ¬ (1 ≤ s.size ∧ s.size ≤ 4)) : dgL (bs s) = -1 := by
  unfold dgL
  rw [if_neg (by rw [← bs_size]; omega)]
theorem dgL_lead {s : ByteArray} (h : 1 < s.size) (h0 : (bs s)[0]? = some 48) : dgL (bs s) = -1 := by
  unfold dgL
  rw [if_neg (fun e => e.2.2 ⟨by rw [← bs_size]; omega, h0⟩)]
theorem dgL_ok {s : ByteArray} (h : 1 ≤ s.size ∧ s.size ≤ 4) (h0 : ¬ (1 < s.size ∧ (bs s)[0]? = some 48)) : dgL (bs s) = dgF 0 (bs s) := by
  unfold dgL
  rw [if_pos ⟨by rw [← bs_size]; omega, by rw [← bs_size]; omega, by rw [← bs_size]; exact h0⟩]
theorem dgF_bad {l : List UInt8} {k : Nat} {x : UInt8} (n : Int) (h : l[k]? = some x) (hx : x.toNat < 48 ∨ 57 < x.toNat) : dgF n (l.drop k) = -1 := by
  obtain ⟨hk, e⟩ := List.getElem?_eq_some_iff.1 h
  rw [List.drop_eq_getElem_cons hk, e, dgF, if_pos hx]
theorem dgF_step {l : List UInt8} {k : Nat} {x : UInt8} (n : Int) (h : l[k]? = some x) (hx : ¬ (x.toNat < 48 ∨ 57 < x.toNat)) : dgF n (l.drop k) = dgF (10 * n + ((x.toNat : Int) - 48)) (l.drop (k + 1)) := by
  obtain ⟨hk, e⟩ := List.getElem?_eq_some_iff.1 h
  rw [List.drop_eq_getElem_cons hk, e, dgF, if_neg hx]
set_option maxHeartbeats 1000000 in
set_option maxRecDepth 100000 in
theorem dgLoop (s : ByteArray) (w : World) (hz : 1 ≤ s.size ∧ s.size ≤ 4) (x : UInt8) (hx : (bs s)[0]? = some x) (h0 : ¬ (1 < s.size ∧ x.toNat = 48)) :
    Calls Tryd.prog 46 #[.string s] w fun r w' => r = .returned (.int .i64 (dgF 0 (bs s))) ∧ New w w' := by
  have q0 := ix_run0 s x hx
  have hx255 : x.toNat < 256 := x.toNat_lt
  obtain ⟨y, hy⟩ : ∃ y, x.toNat = y := ⟨_, rfl⟩
  rw [hy] at q0 h0 hx255
  have HIn : Hid (inB (s.size : Int) 1 4 = true) := inB_t.2 ⟨by omega, by omega⟩
  clear hy hx
  obtain ⟨N, hN⟩ : ∃ N, s.size = N := ⟨_, rfl⟩
  have HL : Hid ((bs s).length = N) := by show _ = _; rw [← bs_size]; exact hN
  have HN := Lib.hid hN
  have HIn2 : Hid (inB (N : Int) 1 4 = true) := by have := HIn.out; rw [hN] at this; exact this
  have hw0 := New.refl w
  have hor : (1 < s.size ∧ (((y : Int) == 48) = false)) ∨ ¬ 1 < s.size := by
    by_cases hh : 1 < s.size
    · left; exact ⟨hh, by simp; omega⟩
    · right; exact hh
  have hor2 : (1 < (N : Int) ∧ (((y : Int) == 48) = false)) ∨ ¬ 1 < (N : Int) := by
    rw [← hN]
    rcases hor with ⟨h1, h2⟩ | h1
    · exact Or.inl ⟨by omega, h2⟩
    · exact Or.inr (by omega)
  clear hor
  rcases hor2 with ⟨h1, hyy⟩ | h1
  all_goals
    go_enter Tryd.func46, Tryd.ntmps46
    go_wp2_with (go_at_call 38; refine (l1In_any _ _ _ _).mono ?_; (first | rw [HIn.out] | rw [HIn2.out]); rintro _ w1 ⟨rfl, rfl⟩)
    go_loopw [4, 3] (fun i v wr => ∃ (k : Nat) (n : Int), k ≤ N ∧ i = .int .i64 k ∧ v = .int .i64 n ∧ (0 ≤ n ∧ n < 10 ^ k) ∧ dgF n ((bs s).drop k) = dgF 0 (bs s) ∧ New w wr) (fun i _ _ => N - (intOf i).toNat)
    case atStart => exact ⟨0, 0, Nat.zero_le _, rfl, rfl, by omega, rfl, hw0⟩
    case round =>
      obtain ⟨k, n, hk, rfl, rfl, hn, hD, hw⟩ := hrel
      have HD := Lib.hid hD
      have hp : (10 : Int) ^ k ≤ 10000 := by
        have hk4 : k ≤ 4 := by omega
        rcases (by omega : k = 0 ∨ k = 1 ∨ k = 2 ∨ k = 3 ∨ k = 4) with rfl | rfl | rfl | rfl | rfl <;> decide
      have hn2 : 0 ≤ n ∧ n < 10000 := by omega
      have Hn := Lib.hid hn
      clear hD hn hp
      by_cases hlt : k < N
      · obtain ⟨z, hz0⟩ : ∃ z, (bs s)[k]? = some z := ⟨_, List.getElem?_eq_getElem (by rw [HL.out]; exact hlt)⟩
        have qk := ix_run s k z hz0
        have HB := Lib.hid (fun hb => dgF_bad (x := z) n hz0 hb)
        have HS := Lib.hid (fun hb => dgF_step (x := z) n hz0 hb)
        have hz255 : z.toNat < 256 := z.toNat_lt
        clear hz0 q0
        obtain ⟨v, hv⟩ : ∃ v, z.toNat = v := ⟨_, rfl⟩
        rw [hv] at qk HB HS hz255
        clear hv
        by_cases hv0 : v < 48
        · have hv0' : (v : Int) < 48 := by omega
          have HB2 := Lib.hid (HB.out (Or.inl hv0))
          clear HB
          go_wp2_with fail
          go_ret
          exact ⟨by rw [← HD.out, HB2.out] <;> rfl, hw⟩
        · by_cases hv1 : 57 < v
          · have hv0' : ¬ (v : Int) < 48 := by omega
            have hv1' : (57 : Int) < (v : Int) := by omega
            have HB2 := Lib.hid (HB.out (Or.inr hv1))
            clear HB
            go_wp2_with fail
            go_ret
            exact ⟨by rw [← HD.out, HB2.out] <;> rfl, hw⟩
          · have hv0' : ¬ (v : Int) < 48 := by omega
            have hv1' : ¬ (57 : Int) < (v : Int) := by omega
            have HS2 := Lib.hid (HS.out (by omega))
            clear HS HB
            go_wp2_with fail
            go_roundw
            case rel => exact ⟨k + 1, 10 * n + ((v : Int) - 48), by omega, by go_num, by go_num, by have := Hn.out; rw [Int.pow_succ]; omega, by rw [← HS2.out]; exact HD.out, hw⟩
            case measure => simp [intOf]; omega
      · obtain rfl : k = N := by omega
        go_wp2_with fail
        go_ret
        exact ⟨by rw [← HD.out, List.drop_of_length_le (by rw [HL.out]; exact Nat.le_refl _)]; rfl, hw⟩
set_option maxHeartbeats 1000000 in
set_option maxRecDepth 100000 in
theorem dgLead (s : ByteArray) (w : World) (hz : 1 ≤ s.size ∧ s.size ≤ 4) (h1 : 1 < s.size) (hx : (bs s)[0]? = some 48) :
    Calls Tryd.prog 46 #[.string s] w fun r w' => r = .returned (.int .i64 (-1)) ∧ New w w' := by
  have q0 := ix_run0 s 48 hx
  have HIn : Hid (inB (s.size : Int) 1 4 = true) := inB_t.2 ⟨by omega, by omega⟩
  have h1' : (1 : Int) < (s.size : Int) := by omega
  have hn := New.refl w
  clear hx hz h1
  rw [show (((48 : UInt8).toNat : Nat) : Int) = 48 from rfl] at q0
  go_enter Tryd.func46, Tryd.ntmps46
  go_wp2_with (go_at_call 38; refine (l1In_any _ _ _ _).mono ?_; rw [HIn.out]; rintro _ w1 ⟨rfl, rfl⟩)
  go_ret
  exact ⟨rfl, hn⟩
set_option maxHeartbeats 1000000 in
set_option maxRecDepth 100000 in
theorem dgBad (s : ByteArray) (w : World) (hz : ¬ (1 ≤ s.size ∧ s.size ≤ 4)) :
    Calls Tryd.prog 46 #[.string s] w fun r w' => r = .returned (.int .i64 (-1)) ∧ New w w' := by
  have HIn : Hid (inB (s.size : Int) 1 4 = false) := inB_f.2 (by omega)
  have hn := New.refl w
  clear hz
  go_enter Tryd.func46, Tryd.ntmps46
  go_wp2_with (go_at_call 38; refine (l1In_any _ _ _ _).mono ?_; rw [HIn.out]; rintro _ w1 ⟨rfl, rfl⟩)
  go_ret
  exact ⟨rfl, hn⟩
theorem l1Digits_any (s : ByteArray) (w : World) : Calls Tryd.prog 46 #[.string s] w fun r w' => r = .returned (.int .i64 (dgL (bs s))) ∧ New w w' := by
  by_cases hz : 1 ≤ s.size ∧ s.size ≤ 4
  · obtain ⟨x, hx⟩ : ∃ x, (bs s)[0]? = some x := ⟨_, List.getElem?_eq_getElem (by rw [← bs_size]; omega)⟩
    by_cases h0 : 1 < s.size ∧ x.toNat = 48
    · have e : x = 48 := UInt8.toNat_inj.1 h0.2
      subst e
      rw [dgL_lead h0.1 hx]
      exact dgLead s w hz h0.1 hx
    · rw [dgL_ok hz (fun hh => h0 ⟨hh.1, by have := hx.symm.trans hh.2; simp at this; rw [this]; rfl⟩)]
      exact dgLoop s w hz x hx h0
  · rw [dgL_bad hz]
    exact dgBad s w hz
/-! l1Read -/
theorem dgF_ge : ∀ (l : List UInt8) (n : Int), 0 ≤ n → -1 ≤ dgF n l ∧ dgF n l < (n + 1) * 10 ^ l.length
  | [], n, h => by simp [dgF]; omega
  | x :: l, n, h => by
    have hx : x.toNat < 256 := x.toNat_lt
    have hp : (0 : Int) < 10 ^ l.length := Int.pow_pos (by omega)
    have hp2 : (0 : Int) < 10 ^ (x :: l).length := Int.pow_pos (by omega)
    unfold dgF
    split
    · refine ⟨by omega, ?_⟩
      have : 0 ≤ (n + 1) * 10 ^ (x :: l).length := Int.mul_nonneg (by omega) (by omega)
      omega
    · obtain ⟨h1, h2⟩ := dgF_ge l (10 * n + ((x.toNat : Int) - 48)) (by omega)
      refine ⟨h1, Int.lt_of_lt_of_le h2 ?_⟩
      rw [List.length_cons, Int.pow_succ, Int.mul_comm (10 ^ l.length) 10, ← Int.mul_assoc]
      exact Int.mul_le_mul_of_nonneg_right (by omega) (by omega)
theorem dgL_bound (l : List UInt8) : -1 ≤ dgL l ∧ dgL l < 10000 := by
  unfold dgL
  split
  · rename_i h
    obtain ⟨h1, h2⟩ := dgF_ge l 0 (Int.le_refl _)
    refine ⟨h1, ?_⟩
    rcases (by omega : l.length = 1 ∨ l.length = 2 ∨ l.length = 3 ∨ l.length = 4) with e | e | e | e <;> rw [e] at h2 <;> omega
  · omega
theorem bs_tail (s : ByteArray) : bs (s.extract 1 s.size) = (bs s).drop 1 := Lib.extract_to_end s 1
set_option maxHeartbeats 1000000 in
set_option maxRecDepth 100000 in
theorem l1Read_any (s : ByteArray) (w : World) : Calls Tryd.prog 34 #[.string s] w fun r w' => r = .returned (.int .i64 (rdL (bs s))) ∧ New w w' := by
  have HD := fun w => l1Digits_any s w
  have HT := fun w => l1Digits_any (s.extract 1 s.size) w
  rw [bs_tail] at HT
  have b1 := dgL_bound (bs s)
  have b2 := dgL_bound ((bs s).drop 1)
  have hn := New.refl w
  by_cases h1 : 1 < s.size
  · obtain ⟨x, hx⟩ : ∃ x, (bs s)[0]? = some x := ⟨_, List.getElem?_eq_getElem (by rw [← bs_size]; omega)⟩
    have q0 := ix_run0 s x hx
    have h1' : (1 : Int) < (s.size : Int) := by omega
    by_cases h45 : x.toNat = 45
    · have e45 : x = 45 := UInt8.toNat_inj.1 h45
      by_cases hd : 0 < dgL ((bs s).drop 1)
      · have HR : Hid (rdL (bs s) = -dgL ((bs s).drop 1)) := by
          show _ = _
          unfold rdL
          rw [if_pos ⟨by rw [← bs_size]; omega, by rw [hx, e45], hd⟩]
        rw [h45] at q0
        rw [HR.out]
        clear hx h45 e45 h1
        obtain ⟨D, hD⟩ : ∃ D, dgL ((bs s).drop 1) = D := ⟨_, rfl⟩
        rw [hD] at HT hd b2 ⊢
        clear hD HR
        go_enter Tryd.func34, Tryd.ntmps34
        go_wp2_with (go_at_call 46; with_reducible refine (HT _).mono ?_; rintro _ w1 ⟨rfl, hn1⟩)
        go_ret
        exact ⟨rfl, (by repeat (first | with_reducible exact New.refl _ | with_reducible assumption | with_reducible refine New.alloc ?_ _ | with_reducible refine New.drewN ?_ _ | with_reducible refine New.drew ?_ | with_reducible refine New.setCell ?_ (by first | omega | (simp; done) | (simp; omega)) _ | with_reducible refine New.tail (by assumption) ?_))⟩
      · have HR : Hid (rdL (bs s) = if dgL (bs s) < 0 then 9999 else dgL (bs s)) := by
          show _ = _
          unfold rdL
          rw [if_neg (fun hh => hd hh.2.2)]
        rw [h45] at q0
        rw [HR.out]
        clear hx h45 e45 h1 HR
        obtain ⟨D, hD⟩ : ∃ D, dgL ((bs s).drop 1) = D := ⟨_, rfl⟩
        rw [hD] at HT hd b2
        clear hD
        obtain ⟨E, hE⟩ : ∃ E, dgL (bs s) = E := ⟨_, rfl⟩
        rw [hE] at HD b1 ⊢
        clear hE
        by_cases hneg : E < 0
        all_goals
          first | rw [if_pos hneg] | rw [if_neg hneg]
          go_enter Tryd.func34, Tryd.ntmps34
          go_wp2_with (go_at_call 46; (first | with_reducible refine (HT _).mono ?_ | with_reducible refine (HD _).mono ?_); rintro _ w1 ⟨rfl, hn1⟩)
          go_ret
          exact ⟨rfl, (by repeat (first | with_reducible exact New.refl _ | with_reducible assumption | with_reducible refine New.alloc ?_ _ | with_reducible refine New.drewN ?_ _ | with_reducible refine New.drew ?_ | with_reducible refine New.setCell ?_ (by first | omega | (simp; done) | (simp; omega)) _ | with_reducible refine New.tail (by assumption) ?_))⟩
    · have HR : Hid (rdL (bs s) = if dgL (bs s) < 0 then 9999 else dgL (bs s)) := by
        show _ = _
        unfold rdL
        rw [if_neg (fun hh => h45 (by have := hx.symm.trans hh.2.1; simp at this; rw [this]; rfl))]
      rw [HR.out]
      have h45' : (((x.toNat : Nat) : Int) == 45) = false := by simp; omega
      obtain ⟨y, hy⟩ : ∃ y, x.toNat = y := ⟨_, rfl⟩
      rw [hy] at q0 h45'
      clear hx h45 h1 HR hy
      obtain ⟨E, hE⟩ : ∃ E, dgL (bs s) = E := ⟨_, rfl⟩
      rw [hE] at HD b1 ⊢
      clear hE
      by_cases hneg : E < 0
      all_goals
        first | rw [if_pos hneg] | rw [if_neg hneg]
        go_enter Tryd.func34, Tryd.ntmps34
        go_wp2_with (go_at_call 46; (first | with_reducible refine (HD _).mono ?_); rintro _ w1 ⟨rfl, hn1⟩)
        go_ret
        exact ⟨rfl, (by repeat (first | with_reducible exact New.refl _ | with_reducible assumption | with_reducible refine New.alloc ?_ _ | with_reducible refine New.drewN ?_ _ | with_reducible refine New.drew ?_ | with_reducible refine New.setCell ?_ (by first | omega | (simp; done) | (simp; omega)) _ | with_reducible refine New.tail (by assumption) ?_))⟩
  · have HR : Hid (rdL (bs s) = if dgL (bs s) < 0 then 9999 else dgL (bs s)) := by
      show _ = _
      unfold rdL
      rw [if_neg (fun hh => h1 (by rw [bs_size]; exact hh.1))]
    rw [HR.out]
    have h1' : ¬ (1 : Int) < (s.size : Int) := by omega
    clear h1 HR
    obtain ⟨E, hE⟩ : ∃ E, dgL (bs s) = E := ⟨_, rfl⟩
    rw [hE] at HD b1 ⊢
    clear hE
    by_cases hneg : E < 0
    all_goals
      first | rw [if_pos hneg] | rw [if_neg hneg]
      go_enter Tryd.func34, Tryd.ntmps34
      go_wp2_with (go_at_call 46; (first | with_reducible refine (HD _).mono ?_); rintro _ w1 ⟨rfl, hn1⟩)
      go_ret
      exact ⟨rfl, (by repeat (first | with_reducible exact New.refl _ | with_reducible assumption | with_reducible refine New.alloc ?_ _ | with_reducible refine New.drewN ?_ _ | with_reducible refine New.drew ?_ | with_reducible refine New.setCell ?_ (by first | omega | (simp; done) | (simp; omega)) _ | with_reducible refine New.tail (by assumption) ?_))⟩
end Go.Proofs.YtmdeekojioeomaaDoor
