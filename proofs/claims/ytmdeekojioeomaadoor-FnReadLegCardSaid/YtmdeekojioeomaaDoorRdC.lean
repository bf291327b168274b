/- Slices of texts in memory; the contract of l1Cut. -/
import Derived.Test.YtmdeekojioeomaaDoorRdD
import Derived.Test.YtmdeekojioeomaaDoorSParts
namespace Go.Proofs.YtmdeekojioeomaaDoor
open Go.RowKit
set_option linter.all false
/-- The first cells of block g are these texts. -/
def Strs (w : World) (g : Nat) (l : List ByteArray) : Prop := ∃ cs : Array Value, Has w g cs 9 ∧ l.length ≤ cs.size ∧ ∀ (k : Nat) (x : ByteArray), l[k]? = some x → cs[k]? = some (.string x)
theorem Strs.keep {w w' : World} {g : Nat} {l : List ByteArray} (h : Strs w g l) (hn : New w w') : Strs w' g l := by
  obtain ⟨cs, h1, h2⟩ := h
  exact ⟨cs, h1.keep hn, h2⟩
theorem Strs.lt {w : World} {g : Nat} {l : List ByteArray} (h : Strs w g l) : g < w.heap.size := by
  obtain ⟨cs, h1, h2⟩ := h
  exact h1.lt
theorem Strs.cell {w : World} {g : Nat} {l : List ByteArray} (h : Strs w g l) {k : Nat} {x : ByteArray} (hk : l[k]? = some x) : ∀ w', New w w' → w'.cell? ⟨g, k, none⟩ = some (.string x) := by
  obtain ⟨cs, h1, h2, h3⟩ := h
  intro w' hn
  rw [h1.cells k w' hn, h3 k x hk]
theorem Strs.of_list (w : World) (l : List ByteArray) : Strs (w.alloc (.cells (l.map Value.string).toArray 9)) w.heap.size l :=
  ⟨_, Has.new _ _ _, by simp, fun k x hk => by simp [hk]⟩
theorem Strs.of_own {w : World} {base : Nat} {v : Value} {n : Nat} {l : List ByteArray} (h : w.ownsRow base 9 1 v n (l.map Value.string)) (hne : l ≠ []) :
    ∃ g cap, v = .slice (some ⟨g, 0, none⟩) l.length cap ∧ base ≤ g ∧ Strs w g l := by
  obtain ⟨h1, h2⟩ := h
  have hn : n = l.length := by simpa using h1.symm
  subst hn
  rcases h2 with ⟨e, h0⟩ | ⟨g, cap, cur, e, hg, hh, hc, hm, hs, ht⟩
  · exact absurd (List.eq_nil_of_length_eq_zero h0) hne
  · refine ⟨g, cap, e, hg, cur, hh, by rw [hs]; omega, fun k x hk => ?_⟩
    have hkl := (List.getElem?_eq_some_iff.1 hk).1
    have e1 : (cur.toList.take (l.length * 1))[k]? = some (.string x) := by rw [ht, List.getElem?_map, hk]; rfl
    rw [List.getElem?_take, if_pos (by omega)] at e1
    simpa using e1
theorem infoStr : (Tryd.prog.info? 9).map (fun i => (i.zero, i.size, i.bytes)) = some (some (.string ⟨#[]⟩), 1, 16) := by kernel_rfl
theorem str_oneCell (x : ByteArray) : ∀ u ∈ [Value.string x], u.oneCell' = true := by
  intro u hu; simp at hu; subst hu; rfl
theorem cutR_hit {s : ByteArray} {c : UInt8} {m fr k : Nat} (hm : s.size - k = m) (hk : k < s.size) (h : (bs s)[k]? = some c) : cutR s c m fr k = s.extract fr k :: cutR s c (s.size - (k + 1)) (k + 1) (k + 1) := by
  obtain ⟨m', rfl⟩ : ∃ m', m = m' + 1 := ⟨m - 1, by omega⟩
  rw [cutR, if_pos h, show s.size - (k + 1) = m' by omega]
theorem cutR_miss {s : ByteArray} {c : UInt8} {m fr k : Nat} (hm : s.size - k = m) (hk : k < s.size) {x : UInt8} (h : (bs s)[k]? = some x) (hx : x ≠ c) : cutR s c m fr k = cutR s c (s.size - (k + 1)) fr (k + 1) := by
  obtain ⟨m', rfl⟩ : ∃ m', m = m' + 1 := ⟨m - 1, by omega⟩
  rw [cutR, if_neg (by rw [h]; simpa using hx), show s.size - (k + 1) = m' by omega]
set_option maxHeartbeats 2000000 in
set_option maxRecDepth 100000 in
theorem l1Cut_any (s : ByteArray) (c : UInt8) (w : World) (hs : s.size ≤ 1048577) :
    Calls Tryd.prog 33 #[.string s, .int .u8 (c.toNat : Int)] w fun r w' => ∃ g cap, r = .returned (.slice (some ⟨g, 0, none⟩) (cutA s c).length cap) ∧ Strs w' g (cutA s c) ∧ New w w' := by
  obtain ⟨i0, hi, hz, hsz, hb⟩ := info_parts infoStr
  have hL := cutA_len s c
  have hneA : cutA s c ≠ [] := cutR_ne s c _ _ _
  obtain ⟨N, hN⟩ : ∃ N, s.size = N := ⟨_, rfl⟩
  have HC0 : Hid (cutA s c = cutR s c (N - 0) 0 0) := by show _ = _; rw [← hN]; rfl
  have HH := Lib.hid (fun (m fr k : Nat) (hm : s.size - k = m) (hk : k < s.size) h => cutR_hit (c := c) (fr := fr) hm hk h)
  have HM := Lib.hid (fun (m fr k : Nat) (hm : s.size - k = m) (hk : k < s.size) x h hx => cutR_miss (c := c) (fr := fr) hm hk (x := x) h hx)
  rw [hN] at HH HM
  obtain ⟨C, hC⟩ : ∃ C, c.toNat = C := ⟨_, rfl⟩
  have HC := Lib.hid hC
  rw [hC]
  have HN := Lib.hid hN
  have HGet : Hid (∀ k : Nat, k < N → ∃ x, (bs s)[k]? = some x) := fun k hk => ⟨_, List.getElem?_eq_getElem (by rw [← bs_size]; omega)⟩
  have hs' : (N : Int) ≤ 1048577 := by omega
  clear hC
  go_enter Tryd.func33, Tryd.ntmps33
  go_wp2_with fail
  go_loopw [7, 5, 6] (fun i v f wr => ∃ (k fr : Nat) (done : List ByteArray), k ≤ N ∧ fr ≤ k ∧ i = .int .i64 k ∧ f = .int .i64 fr ∧ wr.ownsRow w.heap.size 9 1 v done.length (done.map Value.string) ∧ done.length + (N - k) ≤ N ∧ done ++ cutR s c (N - k) fr k = cutA s c ∧ New w wr) (fun i _ _ _ => N - (intOf i).toNat)
  case atStart => exact ⟨0, 0, [], Nat.zero_le _, Nat.le_refl _, rfl, rfl, World.ownsRow_made w #[] 0 (Nat.le_refl _) (by simp) rfl, by simp, HC0.out.symm, (by repeat (first | with_reducible exact New.refl _ | with_reducible assumption | with_reducible refine New.alloc ?_ _ | with_reducible refine New.drewN ?_ _ | with_reducible refine New.drew ?_ | with_reducible refine New.setCell ?_ (by first | omega | (simp; done) | (simp; omega)) _ | with_reducible refine New.tail (by assumption) ?_))⟩
  case round =>
    obtain ⟨k, fr, done, hk, hf, rfl, rfl, hown, hlen, hD, hw⟩ := hrel
    have HD := Lib.hid hD
    have Hlen := Lib.hid hlen
    clear hD
    by_cases hlt : k < N
    · obtain ⟨z, hz0⟩ := HGet.out k hlt
      have qk := ix_run s k z hz0
      have HZ := Lib.hid hz0
      obtain ⟨v, hv⟩ : ∃ v, z.toNat = v := ⟨_, rfl⟩
      rw [hv] at qk
      have HV := Lib.hid hv
      clear hv hz0
      by_cases hc : v = C
      · subst hc
        have hzc : z = c := UInt8.toNat_inj.1 (HV.out.trans HC.out.symm)
        subst hzc
        have HX := Lib.hid (HH.out _ fr k rfl hlt HZ.out)
        go_wp2_with (at_builtin; refine wpList_append_own _ rfl _ _ 53 rfl w.heap.size 9 i0 (.string ⟨#[]⟩) 1 16 Tryd.underlying53 hi hz hsz hb rfl (by decide) _ _ _ rfl (hown.alloc _) ⟨wr.heap.size, 0, none⟩ 1 1 [.string (s.extract fr k)] rfl rfl (one_new _ _ _) (str_oneCell _) (by have := Hlen.out; unfold maxLen; omega) (by have := Hlen.out; omega) (by have := hw.size; simp; omega) ?_; intro v' w1 hown' hgrow _)
        have hnew : New w w1 := (hw.alloc _).grown hgrow (fun j hj => (hown.lt j hj).1)
        go_wp2_with fail
        go_roundw
        case rel => exact ⟨k + 1, k + 1, done ++ [s.extract fr k], by omega, Nat.le_refl _, by go_num, by go_num, by rw [List.length_append, List.map_append]; exact hown', by have := Hlen.out; simp; omega, by rw [← HD.out, List.append_assoc, HX.out]; rfl, hnew⟩
        case measure => simp [intOf]; omega
      · have hzc : z ≠ c := fun e => hc (by rw [← HV.out, ← HC.out, e])
        have HX := Lib.hid (HM.out _ fr k rfl hlt _ HZ.out hzc)
        have hc' : ((v : Int) == (C : Int)) = false := by simp; omega
        clear hzc
        go_wp2_with fail
        go_roundw
        case rel => exact ⟨k + 1, fr, done, by omega, by omega, by go_num, rfl, hown, by have := Hlen.out; omega, by rw [← HD.out, HX.out], hw⟩
        case measure => simp [intOf]; omega
    · obtain rfl : k = N := by omega
      have Hfin : Hid (done ++ [s.extract fr k] = cutA s c) := by
        show _ = _
        rw [← HD.out, Nat.sub_self, cutR, HN.out]
      have hlenA := congrArg List.length Hfin.out
      rw [List.length_append, List.length_singleton] at hlenA
      have HLA := Lib.hid hlenA
      clear hlenA
      go_wp2_with (at_builtin; refine wpList_append_own _ rfl _ _ 53 rfl w.heap.size 9 i0 (.string ⟨#[]⟩) 1 16 Tryd.underlying53 hi hz hsz hb rfl (by decide) _ _ _ rfl (hown.alloc _) ⟨wr.heap.size, 0, none⟩ 1 1 [.string (s.extract fr k)] rfl rfl (one_new _ _ _) (str_oneCell _) (by have := Hlen.out; unfold maxLen; omega) (by have := Hlen.out; omega) (by have := hw.size; simp; omega) ?_; intro v' w1 hown' hgrow _)
      have hnew : New w w1 := (hw.alloc _).grown hgrow (fun j hj => (hown.lt j hj).1)
      go_wp2_with fail
      have hown2 : w1.ownsRow w.heap.size 9 1 v' (cutA s c).length ((cutA s c).map Value.string) := by
        rw [← HLA.out, ← Hfin.out, List.map_append]
        exact hown'
      obtain ⟨g, cap, rfl, hg, hS⟩ := Strs.of_own hown2 hneA
      go_ret
      exact ⟨g, cap, rfl, hS, hnew⟩
end Go.Proofs.YtmdeekojioeomaaDoor
