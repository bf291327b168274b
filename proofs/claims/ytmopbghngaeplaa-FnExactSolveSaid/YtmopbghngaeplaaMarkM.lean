/- markIntSS and heldIntSS: a matrix in blocks of its own, marked and looked at again. -/
import Derived.Test.YtmopbghngaeplaaTurn
namespace Go.Proofs.Ytmopbghngaeplaa
open Go.RowKit
set_option linter.all false
/-- Only blocks from lo on and before hi, and what is new, have turned. -/
structure Mid (lo hi : Nat) (w w' : World) : Prop where
  os : w'.os = w.os
  tape : w'.tape = w.tape
  output : w'.output = w.output
  size : w.heap.size ≤ w'.heap.size
  block : ∀ k, k < w.heap.size → (k < lo ∨ hi ≤ k) → w'.heap[k]? = w.heap[k]?
theorem Mid.refl (lo hi : Nat) (w : World) : Mid lo hi w w := ⟨rfl, rfl, rfl, Nat.le_refl _, fun _ _ _ => rfl⟩
theorem Mid.trans {lo hi : Nat} {a b c : World} (h : Mid lo hi a b) (k : Mid lo hi b c) : Mid lo hi a c :=
  ⟨k.os.trans h.os, k.tape.trans h.tape, k.output.trans h.output, Nat.le_trans h.size k.size, fun i hi hx => (k.block i (Nat.lt_of_lt_of_le hi h.size) hx).trans (h.block i hi hx)⟩
theorem Mid.of_only {lo hi g : Nat} {a b : World} (h : Only g a b) (h1 : lo ≤ g) (h2 : g < hi) : Mid lo hi a b :=
  ⟨h.os, h.tape, h.output, h.size, fun i hi hx => h.block i hi (by intro e; simp at e; omega)⟩
theorem Mid.below {lo hi : Nat} {a b : World} (h : Mid lo hi a b) (hl : lo ≤ a.heap.size) : Below lo a b := ⟨h.os, h.tape, h.output, h.size, fun k hk => h.block k (by omega) (.inl hk)⟩
theorem New.mid {lo hi : Nat} {w a b : World} (h : New w a) (k : Mid lo hi a b) (h1 : w.heap.size ≤ lo) (hl : lo ≤ a.heap.size) : New w b := h.below (k.below hl) h1
theorem Has.mid {lo hi : Nat} {W w' : World} {b : Nat} {cs : Array Value} {T : TypeId} (h : Has W b cs T) (ho : Mid lo hi W w') (hne : b < lo ∨ hi ≤ b) : Has w' b cs T := (ho.block b h.lt hne).trans h
theorem Ints.mid {lo hi : Nat} {W w' : World} {b : Nat} {l : List Int} (h : Ints W b l) (ho : Mid lo hi W w') (hne : b < lo ∨ hi ≤ b) : Ints w' b l := by
  obtain ⟨cs, h1, h2⟩ := h
  exact ⟨cs, h1.mid ho hne, h2⟩
/-- A matrix in blocks of its own from lo on and before hi. -/
def MatIn (lo hi : Nat) (w : World) (A : Option Addr) (M : List (List Int)) : Prop :=
  M ≠ [] → ∃ (g : Nat) (cs : Array Value) (Gs : List Nat), A = some ⟨g, 0, none⟩ ∧ lo ≤ g ∧ g < hi ∧ Has w g cs 58 ∧ cs.size = M.length ∧ Gs.length = M.length ∧ Gs.Pairwise (· < ·) ∧
    ∀ (k : Nat) (r : List Int) (gk : Nat), M[k]? = some r → Gs[k]? = some gk → g < gk ∧ gk < hi ∧ Ints w gk r ∧ ∃ c, cs[k]? = some (.slice (some ⟨gk, 0, none⟩) r.length c)
theorem FMat.in_ {w0 w : World} {A : Option Addr} {M : List (List Int)} (h : FMat w0 w A M) : MatIn w0.heap.size w.heap.size w A M := fun hne => by
  obtain ⟨g, cs, Gs, e, h1, h2, h3, h4, h5, h6⟩ := h hne
  refine ⟨g, cs, Gs, e, h1, h2.lt, h2, h3, h4, h5, fun k r gk a b => ?_⟩
  obtain ⟨c1, c2, c3⟩ := h6 k r gk a b
  exact ⟨c1, c2.lt, c2, c3.imp fun _ h => h.2⟩
theorem MatIn.reads {lo hi : Nat} {w : World} {A : Option Addr} {M : List (List Int)} (h : MatIn lo hi w A M) : MatAt w A M := fun hne => by
  obtain ⟨g, cs, Gs, e, h1, h1', h2, h3, h4, h5, h6⟩ := h hne
  refine ⟨g, 0, e, h2.lt, fun k r hk => ?_⟩
  have hkl := (List.getElem?_eq_some_iff.1 hk).1
  obtain ⟨a, _, b, c, hc⟩ := h6 k r Gs[k] hk (List.getElem?_eq_getElem (by omega))
  exact ⟨_, c, by rw [Nat.zero_add, h2.cells k w (New.refl w)]; exact hc, b.reads⟩
theorem MatIn.keep {lo hi : Nat} {w w' : World} {A : Option Addr} {M : List (List Int)} (h : MatIn lo hi w A M) (hn : New w w') : MatIn lo hi w' A M := fun hne => by
  obtain ⟨g, cs, Gs, e, h1, h1', h2, h3, h4, h5, h6⟩ := h hne
  refine ⟨g, cs, Gs, e, h1, h1', h2.keep hn, h3, h4, h5, fun k r gk a b => ?_⟩
  obtain ⟨c1, c2, c3, c4⟩ := h6 k r gk a b
  exact ⟨c1, c2, c3.keep hn, c4⟩
theorem MatIn.mid {lo hi l2 h2 : Nat} {w w' : World} {A : Option Addr} {M : List (List Int)} (h : MatIn lo hi w A M) (hm : Mid l2 h2 w w') (hd : hi ≤ l2 ∨ h2 ≤ lo) : MatIn lo hi w' A M := fun hne => by
  obtain ⟨g, cs, Gs, e, h1, h1', h2, h3, h4, h5, h6⟩ := h hne
  refine ⟨g, cs, Gs, e, h1, h1', h2.mid hm (by omega), h3, h4, h5, fun k r gk a b => ?_⟩
  obtain ⟨c1, c2, c3, c4⟩ := h6 k r gk a b
  exact ⟨c1, c2, c3.mid hm (by omega), c4⟩
/-- The count of the entries of the first k rows. -/
def tot (M : List (List Int)) (k : Nat) : Nat := ((M.take k).map List.length).sum
theorem tot_zero (M : List (List Int)) : tot M 0 = 0 := by simp [tot]
theorem tot_succ (M : List (List Int)) (k : Nat) (h : k < M.length) : tot M (k + 1) = tot M k + M[k].length := by
  unfold tot; rw [List.take_succ_eq_append_getElem h, List.map_append, List.sum_append]; rfl
theorem tot_le {M : List (List Int)} {c : Nat} (h : ∀ r ∈ M, r.length ≤ c) : ∀ k, k ≤ M.length → tot M k ≤ k * c := by
  intro k
  induction k with
  | zero => intro _; simp [tot]
  | succ k ih =>
    intro hk
    rw [tot_succ M k (by omega), Nat.succ_mul]
    have := ih (by omega)
    have := h _ (List.getElem_mem (show k < M.length by omega))
    omega
def mkRow (M : List (List Int)) (k : Nat) (r : List Int) : List Int := mkL (1 + (tot M k : Int)) r.length
/-- The marked matrix. -/
def mkM (M : List (List Int)) : List (List Int) := (List.range M.length).map fun k => mkRow M k (M.getD k [])
theorem mkM_length (M : List (List Int)) : (mkM M).length = M.length := by simp [mkM]
theorem mkM_get {M : List (List Int)} {k : Nat} (h : k < M.length) : (mkM M)[k]? = some (mkRow M k M[k]) := by simp [mkM, h]
set_option maxHeartbeats 2000000 in
theorem markIntSS_any (A : Option Addr) (ca n lo hi : Nat) (M : List (List Int)) (w : World) (hln : M.length = n) (h : MatIn lo hi w A M) (hm : n ≤ 1048576) (hr : ∀ r ∈ M, r.length ≤ 1048576) :
    Calls Try.prog 41 #[.slice A n ca, .int .i64 1] w fun r w' => r = .returned (.int .i64 (1 + tot M n)) ∧ Mid lo hi w w' ∧ MatIn lo hi w' A (mkM M) := by
  by_cases hne : M = []
  · subst hne
    subst hln
    go_enter Try.func41, Try.ntmps41
    go_wp2_with fail
    refine wp_loop_rounds 1 ?_
    rw [rounds_succ]
    go_wp2_with fail
    go_ret
    exact ⟨by rfl, Mid.refl _ _ _, fun e => absurd rfl e⟩
  subst hln
  obtain ⟨g, cs, Gs, rfl, h1, h1', h2, h3, h4, h5, h6⟩ := h hne
  have HT : Hid (∀ k, k < M.length → tot M k ≤ 1099510579200) := fun k hk => by
    have := tot_le hr k (by omega)
    have : k * 1048576 ≤ 1048575 * 1048576 := Nat.mul_le_mul_right _ (by omega)
    omega
  have HR := Lib.hid hr
  have H6 := Lib.hid h6
  have H4 := Lib.hid h4
  have H5 := Lib.hid h5
  have H3 := Lib.hid h3
  have Hne := Lib.hid hne
  clear h h6 hr h4 h5 h3 hne
  go_enter Try.func41, Try.ntmps41
  go_wp2_with fail
  go_loopw [5, 1] (fun i v wr => ∃ k : Nat, k ≤ M.length ∧ i = .int .i64 k ∧ v = .int .i64 (1 + (tot M k : Int)) ∧ Mid lo hi w wr ∧ Has wr g cs 58 ∧ Hid (∀ (j : Nat) (r : List Int) (gj : Nat), M[j]? = some r → Gs[j]? = some gj → Ints wr gj (if j < k then mkRow M j r else r))) (fun i _ _ => M.length - (intOf i).toNat)
  case atStart => exact ⟨0, Nat.zero_le _, rfl, by rw [tot_zero]; rfl, Mid.refl _ _ _, h2, fun j r gj a b => by rw [if_neg (Nat.not_lt_zero _)]; exact (H6.out j r gj a b).2.2.1⟩
  case round =>
    obtain ⟨k, hk, rfl, rfl, hw, hg, Hin⟩ := hrel
    by_cases hlt : k < M.length
    · have hG : k < Gs.length := by rw [H4.out]; exact hlt
      obtain ⟨d1, d2, d3, c, d4⟩ := H6.out k _ _ (List.getElem?_eq_getElem hlt) (List.getElem?_eq_getElem hG)
      have hI := Hin.out k _ _ (List.getElem?_eq_getElem hlt) (List.getElem?_eq_getElem hG)
      rw [if_neg (Nat.lt_irrefl k)] at hI
      have hlen := HR.out M[k] (List.getElem_mem hlt)
      have ht := HT.out k hlt
      have hts := tot_succ M k hlt
      obtain ⟨r, hrk⟩ : ∃ r, M[k] = r := ⟨_, rfl⟩
      obtain ⟨gk, hgk⟩ : ∃ gk, Gs[k] = gk := ⟨_, rfl⟩
      have HK := Lib.hid hrk
      have HG := Lib.hid hgk
      rw [hrk] at hI d4 hlen hts
      rw [hgk] at hI d4 d1 d2
      have HTS := Lib.hid hts
      have cg := fun w' (hn : New wr w') => (hg.cells k w' hn).trans d4
      clear hrk hgk hts d3 d4
      go_wp2_with fail
      refine (markIntS_row _ _ _ _ _ hI (by omega) (by omega) (by omega)).mono ?_
      rintro e w1 ⟨rfl, ho, hi1⟩
      go_wp2_with fail
      go_roundw
      case rel => 
        refine ⟨k + 1, by omega, by go_num, ?_, hw.trans (Mid.of_only ho (by omega) d2), hg.only ho (by omega), fun j r' gj a b => ?_⟩
        · rw [HTS.out]; simp; omega
        · by_cases hjk : j = k
          · subst hjk
            rw [List.getElem?_eq_getElem hlt, HK.out] at a
            rw [List.getElem?_eq_getElem hG, HG.out] at b
            simp only [Option.some.injEq] at a b
            subst a b
            rw [if_pos (by omega)]
            exact hi1
          · have := Hin.out j r' gj a b
            have hjg : gj ≠ gk := by
              have hp := List.pairwise_iff_getElem.1 H5.out
              obtain ⟨b1, b2⟩ := List.getElem?_eq_some_iff.1 b
              have hG2 := HG.out
              rcases Nat.lt_or_ge j k with hjk' | hjk'
              · have := hp j k b1 hG hjk'; omega
              · have := hp k j hG b1 (by omega); omega
            have h7 := this.only ho hjg
            by_cases hj2 : j < k
            · rw [if_pos hj2] at h7; rw [if_pos (by omega)]; exact h7
            · rw [if_neg hj2] at h7; rw [if_neg (by omega)]; exact h7
      case measure => simp [intOf]; omega
    · obtain rfl : k = M.length := by omega
      go_wp2_with fail
      go_ret
      refine ⟨rfl, hw, fun _ => ⟨g, cs, Gs, rfl, h1, h1', hg, by rw [mkM_length]; exact H3.out, by rw [mkM_length]; exact H4.out, H5.out, fun j r gj a b => ?_⟩⟩
      have hjl := (List.getElem?_eq_some_iff.1 a).1
      rw [mkM_length] at hjl
      rw [mkM_get hjl] at a
      simp only [Option.some.injEq] at a
      obtain ⟨d1, d2, d3, c, d4⟩ := H6.out j _ _ (List.getElem?_eq_getElem hjl) b
      have hI := Hin.out j _ _ (List.getElem?_eq_getElem hjl) b
      rw [if_pos hjl] at hI
      subst a
      exact ⟨d1, d2, hI, c, by rw [d4]; simp [mkRow, mkL_length]⟩
set_option maxHeartbeats 2000000 in
theorem heldIntSS_any (A : Option Addr) (ca n : Nat) (M : List (List Int)) (w : World) (hln : M.length = n) (h : MatAt w A (mkM M)) (hm : n ≤ 1048576) (hr : ∀ r ∈ M, r.length ≤ 1048576) :
    Calls Try.prog 42 #[.slice A n ca, .int .i64 1] w fun r w' => r = .returned (.int .i64 (1 + tot M n)) ∧ New w w' := by
  subst hln
  have HT : Hid (∀ k, k < M.length → tot M k ≤ 1099510579200) := fun k hk => by
    have := tot_le hr k (by omega)
    have : k * 1048576 ≤ 1048575 * 1048576 := Nat.mul_le_mul_right _ (by omega)
    omega
  have HR := Lib.hid hr
  clear hr
  go_enter Try.func42, Try.ntmps42
  go_wp2_with fail
  go_loopw [5, 1] (fun i v wr => ∃ k : Nat, k ≤ M.length ∧ i = .int .i64 k ∧ v = .int .i64 (1 + (tot M k : Int)) ∧ New w wr) (fun i _ _ => M.length - (intOf i).toNat)
  case atStart => exact ⟨0, Nat.zero_le _, rfl, by rw [tot_zero]; rfl, New.refl _⟩
  case round =>
    obtain ⟨k, hk, rfl, rfl, hw⟩ := hrel
    by_cases hlt : k < M.length
    · have hml : k < (mkM M).length := by rw [mkM_length]; exact hlt
      obtain ⟨b, off, R, c, hA, hI, hc⟩ := (h.keep hw).at_ hml
      have hmg : (mkM M)[k] = mkRow M k M[k] := by
        have := mkM_get hlt
        rw [List.getElem?_eq_getElem hml] at this
        simpa using this
      rw [hmg] at hI hc
      have hlen := HR.out M[k] (List.getElem_mem hlt)
      have ht := HT.out k hlt
      have hts := tot_succ M k hlt
      obtain ⟨r, hrk⟩ : ∃ r, M[k] = r := ⟨_, rfl⟩
      rw [hrk] at hI hc hlen hts
      unfold mkRow at hI hc
      rw [mkL_length] at hc
      have HTS := Lib.hid hts
      have hneg : ¬ (1 + (tot M k : Int) + (r.length : Int)) < 0 := by omega
      subst hA
      clear hts hrk hmg hml
      go_wp2_with fail
      refine (heldIntS_any _ _ _ _ _ hI (by omega) (by omega) (by omega)).mono ?_
      rintro e w1 ⟨rfl, hn1⟩
      go_wp2_with fail
      go_roundw
      case rel => exact ⟨k + 1, by omega, by go_num, by rw [HTS.out]; simp; omega, hw.trans hn1⟩
      case measure => simp [intOf]; omega
    · obtain rfl : k = M.length := by omega
      go_wp2_with fail
      go_ret
      exact ⟨rfl, hw⟩
end Go.Proofs.Ytmopbghngaeplaa
