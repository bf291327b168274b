/- Contracts of Det: detFrom (program: a bit mask of used columns), l2Minor and l2Det (reference). -/
import Derived.Test.YtbjahideaonimaaDetP
import Derived.Deep.AppendLies
namespace Go.Proofs.Ytbjahideaonimaa
open Go.RowKit
set_option linter.all false
/-- F: the columns before n whose bits u lacks, in order. -/
def Free (n u : Nat) (F : List Nat) : Prop := F.Pairwise (· < ·) ∧ ∀ c, c ∈ F ↔ c < n ∧ u.testBit c = false
/-- j of the columns of F lie before c. -/
def Upto (F : List Nat) (c j : Nat) : Prop := j ≤ F.length ∧ ∀ (i x : Nat), F[i]? = some x → (i < j ↔ x < c)
theorem Free.all (n : Nat) : Free n 0 (List.range n) := ⟨List.pairwise_lt_range, fun c => by simp⟩
theorem Upto.zero (F : List Nat) : Upto F 0 0 := ⟨Nat.zero_le _, fun i x _ => by omega⟩
theorem Free.used {n u : Nat} {F : List Nat} (h : Free n u F) {c j : Nat} (hj : Upto F c j) (hb : u.testBit c = true) : Upto F (c + 1) j := by
  refine ⟨hj.1, fun i x hx => ?_⟩
  rw [hj.2 i x hx]
  have hne : x ≠ c := fun e => by
    subst e
    have := (h.2 x).1 (List.mem_of_getElem? hx)
    rw [hb] at this
    exact absurd this.2 (by decide)
  omega
theorem Free.at_ {n u : Nat} {F : List Nat} (h : Free n u F) {c j : Nat} (hj : Upto F c j) (hc : c < n) (hb : u.testBit c = false) : F[j]? = some c := by
  obtain ⟨i, hi, he⟩ := List.getElem_of_mem ((h.2 c).2 ⟨hc, hb⟩)
  have hx : F[i]? = some c := by rw [List.getElem?_eq_getElem hi, he]
  have h1 := hj.2 i c hx
  have hp := List.pairwise_iff_getElem.1 h.1
  rcases Nat.lt_trichotomy i j with hlt | rfl | hgt
  · omega
  · exact hx
  · have h2 := hp j i (by omega) hi hgt
    have h3 := hj.2 j _ (List.getElem?_eq_getElem (by omega))
    omega
theorem Free.next {n u : Nat} {F : List Nat} (h : Free n u F) {c j : Nat} (hj : Upto F c j) (hc : c < n) (hb : u.testBit c = false) : Upto F (c + 1) (j + 1) := by
  have ha := h.at_ hj hc hb
  obtain ⟨hl, he⟩ := List.getElem?_eq_some_iff.1 ha
  have hp := List.pairwise_iff_getElem.1 h.1
  refine ⟨hl, fun i x hx => ?_⟩
  obtain ⟨hil, hie⟩ := List.getElem?_eq_some_iff.1 hx
  rcases Nat.lt_trichotomy i j with hlt | rfl | hgt
  · have := hp i j hil hl hlt; omega
  · omega
  · have := hp j i hl hil hgt; omega
theorem Free.erase {n u : Nat} {F : List Nat} (h : Free n u F) {c j : Nat} (hj : Upto F c j) (hc : c < n) (hb : u.testBit c = false) : Free n (u ||| 2 ^ c) (F.eraseIdx j) := by
  have ha := h.at_ hj hc hb
  obtain ⟨hl, he⟩ := List.getElem?_eq_some_iff.1 ha
  have hp := List.pairwise_iff_getElem.1 h.1
  refine ⟨h.1.sublist (List.eraseIdx_sublist _ _), fun x => ?_⟩
  rw [Nat.testBit_or, Nat.testBit_two_pow, Bool.or_eq_false_iff, decide_eq_false_iff_not, ← and_assoc, ← h.2 x, List.mem_eraseIdx_iff_getElem?]
  constructor
  · rintro ⟨i, hne, hx⟩
    obtain ⟨hil, hie⟩ := List.getElem?_eq_some_iff.1 hx
    refine ⟨List.mem_of_getElem? hx, fun e => ?_⟩
    rcases Nat.lt_trichotomy i j with hlt | rfl | hgt
    · have := hp i j hil hl hlt; omega
    · exact hne rfl
    · have := hp j i hl hil hgt; omega
  · rintro ⟨hx, hne⟩
    obtain ⟨i, hil, hie⟩ := List.getElem_of_mem hx
    exact ⟨i, fun e => hne (by subst e; omega), by rw [List.getElem?_eq_getElem hil, hie]⟩
theorem Free.last {n u : Nat} {F : List Nat} (h : Free n u F) {j : Nat} (hj : Upto F n j) : j = F.length := by
  rcases Nat.lt_or_ge j F.length with hlt | hge
  · have h3 := hj.2 j _ (List.getElem?_eq_getElem hlt)
    have := (h.2 F[j]).1 (List.getElem_mem hlt)
    omega
  · have := hj.1; omega
theorem and_one32 : ∀ u : Fin 32, ∀ c : Fin 5, bits .and .i64 ((u.val : Int) / 2 ^ c.val) 1 = if u.val.testBit c.val then 1 else 0 := by decide +kernel
theorem or_pow32 : ∀ u : Fin 32, ∀ c : Fin 5, bits .or .i64 (u.val : Int) (2 ^ c.val) = ((u.val ||| 2 ^ c.val : Nat) : Int) ∧ u.val ||| 2 ^ c.val < 32 := by decide +kernel
theorem wrap_pow5 : ∀ c : Fin 5, IntKind.i64.wrap (2 ^ c.val) = 2 ^ c.val := by decide +kernel
set_option maxHeartbeats 4000000 in
theorem detFrom_any (A : Option Addr) (cap n : Nat) (M : List (List Int)) (hsq : Sq n M) (hn5 : n ≤ 5) : ∀ (d row u : Nat) (F : List Nat) (w : World), row + d = n → F.length = d → Free n u F → u < 32 → MatAt w A M →
    Calls Try.prog 56 #[.slice A n cap, .int .i64 row, .int .i64 u] w fun e w' => e = .returned (.int .i64 (detR d (sub M row F))) ∧ New w w' := by
  intro d
  induction d with
  | zero =>
    intro row u F w hrow hF hfr hu hM
    obtain rfl : row = n := by omega
    go_enter Try.func56, Try.ntmps56
    go_wp2_with fail
    go_ret
    exact ⟨rfl, New.refl _⟩
  | succ d ih =>
    intro row u F w hrow hF hfr hu hM
    have hrl : row < M.length := by rw [hsq.1]; omega
    have hrow' : (row : Int) < (n : Int) := by omega
    have hrow0 : (0 : Int) ≤ (row : Int) := by omega
    have hne : ((row : Int) == (n : Int)) = false := by simp; omega
    obtain ⟨b, off, R, c0, hA, hI, hc⟩ := hM.at_ hrl
    subst hA
    have hlen : M[row].length = n := (hsq.2 _ (List.getElem_mem hrl)).1
    have Hme : Hid (∀ q, q < n → M[row][q]? = some (mAt M row q)) := fun q hq => by rw [List.getElem?_eq_getElem (by omega), mAt_get hrl (by omega)]
    obtain ⟨r, hrk⟩ : ∃ r, M[row] = r := ⟨_, rfl⟩
    rw [hrk] at hI hc hlen Hme
    rw [hlen] at hc
    have HL := Lib.hid hlen
    have HSQ := Lib.hid hsq
    have HFR := Lib.hid hfr
    have HF := Lib.hid hF
    have IH := Lib.hid ih
    have HS : Hid (Sq (d + 1) (sub M row F)) := by
      have := sub_sq hsq row F (by rw [hF]; omega)
      rw [show n - row = d + 1 by omega] at this
      exact this
    have Hrl := Lib.hid hrl
    clear hrk hlen hsq hfr hF ih hrl
    go_enter Try.func56, Try.ntmps56
    go_wp2_with fail
    go_loopw [20, 7, 8, 9, 10] (fun i s g _ _ wr => ∃ c j : Nat, c ≤ n ∧ i = .int .i64 c ∧ s = .int .i64 (detP d (sub M row F) j) ∧ g = .int .i64 (sgn j) ∧ New w wr ∧ Hid (Upto F c j)) (fun i _ _ _ _ _ => n - (intOf i).toNat)
    case atStart => exact ⟨0, 0, Nat.zero_le _, rfl, rfl, rfl, New.refl _, Upto.zero F⟩
    case round =>
      obtain ⟨c, j, hcn, rfl, rfl, rfl, hw, HU⟩ := hrel
      by_cases hlt : c < n
      · have hlt' : (c : Int) < (n : Int) := by omega
        have hc0 : (0 : Int) ≤ (c : Int) := by omega
        obtain ⟨b2, off2, x, hR, hx, hcx⟩ := (hI.keep hw).at_ (k := c) (by rw [HL.out]; exact hlt)
        subst hR
        have hand := and_one32 ⟨u, hu⟩ ⟨c, by omega⟩
        simp only at hand
        have hxm : x = mAt M row c := by
          have h2 := Hme.out c hlt
          rw [List.getElem?_eq_getElem (by rw [HL.out]; exact hlt), hx] at h2
          simpa using h2
        have HX := Lib.hid hxm
        clear hx hxm
        cases hb : u.testBit c
        · have HNX := Lib.hid (HFR.out.next HU.out hlt hb)
          have hjc := HFR.out.at_ HU.out hlt hb
          have HER := Lib.hid (HFR.out.erase HU.out hlt hb)
          have hjl : j < d + 1 := by have := (List.getElem?_eq_some_iff.1 hjc).1; rw [HF.out] at this; exact this
          have hsub : mAt (sub M row F) 0 j = x := by rw [sub_at M row F j c Hrl.out hjc]; exact HX.out.symm
          have HSUB := Lib.hid hsub
          obtain ⟨⟨p1, p2⟩, ⟨q1, q2⟩, r1, r2⟩ := det_small HS.out (by omega) j (by omega)
          rw [hsub, sub_minor] at p1 p2
          rw [sub_minor] at r1 r2
          have hdp := detP_succ d (sub M row F) j
          rw [hsub, sub_minor] at hdp
          obtain ⟨dt, hdt⟩ : ∃ dt, detR d (sub M (row + 1) (F.eraseIdx j)) = dt := ⟨_, rfl⟩
          have HDT := Lib.hid hdt
          rw [hdt] at p1 p2 r1 r2 hdp
          have hFl : (F.eraseIdx j).length = d := by rw [List.length_eraseIdx, if_pos (by rw [HF.out]; exact hjl), HF.out]; omega
          have HFL := Lib.hid hFl
          obtain ⟨hor, hor2⟩ := or_pow32 ⟨u, hu⟩ ⟨c, by omega⟩
          have hwp := wrap_pow5 ⟨c, by omega⟩
          simp only at hor hor2 hwp
          obtain ⟨u', hu'⟩ : ∃ u', u ||| 2 ^ c = u' := ⟨_, rfl⟩
          rw [hu'] at hor hor2 HER
          have h5 := HSQ.out.entry row c
          rw [← HX.out] at h5
          have hsn := sgn_succ j
          obtain ⟨dp, hdpe⟩ : ∃ dp, detP d (sub M row F) j = dp := ⟨_, rfl⟩
          rw [hdpe] at hdp q1 q2
          have HDP := Lib.hid hdp
          have HSN := Lib.hid hsn
          have HMat := Lib.hid (hM.keep hw)
          rw [hb, if_neg (by decide)] at hand
          rw [hdpe]
          clear hb hjc hsub hdt hFl hu' hdp hsn hdpe hM
          by_cases hx0 : x = 0
          · subst hx0
            rcases sgn_cases j with hs | hs
            · rw [hs] at HSN HDP ⊢
              go_wp2_with fail
              go_roundw
              case rel => exact ⟨c + 1, j + 1, by omega, by go_num, by rw [HDP.out]; simp, by first | (rw [HSN.out]; rfl) | rw [HSN.out], hw, HNX⟩
              case measure => simp [intOf]; omega
            · rw [hs] at HSN HDP ⊢
              go_wp2_with fail
              go_roundw
              case rel => exact ⟨c + 1, j + 1, by omega, by go_num, by rw [HDP.out]; simp, by first | (rw [HSN.out]; rfl) | rw [HSN.out], hw, HNX⟩
              case measure => simp [intOf]; omega
          · have hx0' : (x != 0) = true := by simpa using hx0
            rcases sgn_cases j with hs | hs
            · rw [hs] at HSN HDP ⊢
              go_wp2_with fail
              refine (IH.out (row + 1) u' _ _ (by omega) HFL.out HER.out hor2 HMat.out).mono ?_
              rw [HDT.out]
              rintro e w1 ⟨rfl, hn1⟩
              go_wp2_with fail
              go_roundw
              case rel => exact ⟨c + 1, j + 1, by omega, by go_num, by rw [HDP.out]; simp, by first | (rw [HSN.out]; rfl) | rw [HSN.out], hw.trans hn1, HNX⟩
              case measure => simp [intOf]; omega
            · rw [hs] at HSN HDP ⊢
              have hm := Int.neg_mul x dt
              have p3 : -36028797018963968 ≤ -x * dt := by rw [hm]; omega
              have p4 : -x * dt ≤ 36028797018963968 := by rw [hm]; omega
              clear hm
              go_wp2_with fail
              refine (IH.out (row + 1) u' _ _ (by omega) HFL.out HER.out hor2 HMat.out).mono ?_
              rw [HDT.out]
              rintro e w1 ⟨rfl, hn1⟩
              go_wp2_with fail
              go_roundw
              case rel => exact ⟨c + 1, j + 1, by omega, by go_num, by rw [HDP.out]; simp, by first | (rw [HSN.out]; rfl) | rw [HSN.out], hw.trans hn1, HNX⟩
              case measure => simp [intOf]; omega
        · have HUS := Lib.hid (HFR.out.used HU.out hb)
          rw [hb, if_pos rfl] at hand
          clear hb
          go_wp2_with fail
          go_roundw
          case rel => exact ⟨c + 1, j, by omega, by go_num, rfl, rfl, hw, HUS⟩
          case measure => simp [intOf]; omega
      · obtain rfl : c = n := by omega
        have hj := HFR.out.last HU.out
        rw [HF.out] at hj
        subst hj
        go_wp2_with fail
        go_ret
        exact ⟨ret_int (detP_all _ _), hw⟩
end Go.Proofs.Ytbjahideaonimaa
