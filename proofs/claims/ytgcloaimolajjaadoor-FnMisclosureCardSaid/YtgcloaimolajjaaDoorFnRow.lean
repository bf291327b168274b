/- A new row of all legs of a survey, and a store into it. -/
import Derived.Test.YtgcloaimolajjaaDoorDrawR
import Derived.Test.YtgcloaimolajjaaDoorFnP3
namespace Go.Proofs.YtgcloaimolajjaaDoor
open Go.RowKit
set_option linter.all false
theorem row_in {w : World} {base n : Nat} {v : Value} {L : List Lg} (h : w.ownsRow base 34 5 v n (lgC L)) (hne : 0 < L.length) : ∃ (g cap : Nat) (cs : Array Value), v = .slice (some ⟨g, 0, none⟩) L.length cap ∧ base ≤ g ∧ Has w g cs 34 ∧ L.length ≤ cap ∧ ∀ (k : Nat) (q : Lg), L[k]? = some q → LegIn cs k q := by
  have hl := h.1
  rw [lgC_len] at hl
  obtain rfl : n = L.length := by omega
  rcases h.2 with ⟨rfl, h0⟩ | ⟨g, cap, cur, rfl, hg, hh, hc, hm, hs, ht⟩
  · omega
  · refine ⟨g, cap, cur, rfl, hg, hh, hc, fun k q hk => ?_⟩
    have hkl := (List.getElem?_eq_some_iff.1 hk).1
    obtain ⟨a0, a1, a2, a3, a4⟩ := lgC_get L k q hk
    have hx : ∀ j, j < L.length * 5 → cur[j]? = (lgC L)[j]? := fun j hj => by
      rw [← ht, List.getElem?_take, if_pos hj]; simp
    unfold LegIn
    rw [hx _ (by omega), hx _ (by omega), hx _ (by omega), hx _ (by omega), hx _ (by omega)]
    exact ⟨a0, a1, a2, a3, a4⟩
theorem legs_of_in {w : World} {g : Nat} {cs : Array Value} {L : List Lg} (h : Has w g cs 34) (hi : ∀ (k : Nat) (q : Lg), L[k]? = some q → LegIn cs k q) : LegsAt w (some ⟨g, 0, none⟩) L := fun _ => by
  refine ⟨g, 0, rfl, h.lt, fun k q hk => ?_⟩
  have e : ∀ i, w.cell? ⟨g, i, none⟩ = cs[i]? := fun i => h.cells i w (New.refl w)
  rw [Nat.zero_add, e, e, e, e, e]
  exact hi k q hk
theorem far_in {cs : Array Value} {L : List Lg} {j : Nat} (hj : j < L.length) (hi : ∀ (k : Nat) (q : Lg), L[k]? = some q → LegIn cs k q) : ∀ (k : Nat) (q : Lg), (farL L j)[k]? = some q → LegIn (cs.setIfInBounds (j * 5 + 2) (.int .i64 ((legAt L j).e + 1))) k q := by
  intro k q hq
  unfold farL at hq
  rw [List.getElem?_set] at hq
  obtain ⟨b0, b1, b2, b3, b4⟩ := hi j _ (List.getElem?_eq_getElem hj)
  have hsz : j * 5 + 2 < cs.size := by
    rcases Nat.lt_or_ge (j * 5 + 2) cs.size with h | h
    · exact h
    · rw [Array.getElem?_eq_none h] at b2; cases b2
  by_cases hjk : j = k
  · subst hjk
    rw [if_pos rfl, if_pos hj] at hq
    obtain rfl := Option.some.inj hq
    unfold LegIn
    simp only [Array.getElem?_setIfInBounds]
    rw [if_neg (by omega), if_neg (by omega), if_pos trivial, if_pos hsz, if_neg (by omega), if_neg (by omega), legAt_get hj]
    exact ⟨b0, b1, rfl, b3, b4⟩
  · rw [if_neg hjk] at hq
    obtain ⟨a0, a1, a2, a3, a4⟩ := hi k q hq
    unfold LegIn
    simp only [Array.getElem?_setIfInBounds]
    rw [if_neg (by omega), if_neg (by omega), if_neg (by omega), if_neg (by omega), if_neg (by omega)]
    exact ⟨a0, a1, a2, a3, a4⟩
/-- The cells of legs that lie in a row. -/
theorem legs_news {w : World} {b off : Nat} {L : List Lg} (h : LegsAt w (some ⟨b, off, none⟩) L) : ∀ i u, (lgC L)[i]? = some u → w.cell? ((⟨b, off, none⟩ : Addr).add i) = some u := by
  intro i u hu
  have hlt := (List.getElem?_eq_some_iff.1 hu).1
  rw [lgC_len] at hlt
  obtain ⟨b', off', e, hb, hc⟩ := h (by rintro rfl; simp at hlt)
  simp only [Option.some.injEq, Addr.mk.injEq, and_true] at e
  obtain ⟨rfl, rfl⟩ := e
  have hk : i / 5 < L.length := by omega
  obtain ⟨a0, a1, a2, a3, a4⟩ := lgC_get L (i / 5) _ (List.getElem?_eq_getElem hk)
  obtain ⟨c0, c1, c2, c3, c4⟩ := hc (i / 5) _ (List.getElem?_eq_getElem hk)
  have hadd : (⟨b, off, none⟩ : Addr).add i = ⟨b, off + i, none⟩ := by unfold Addr.add; split <;> simp_all
  rw [hadd]
  have hr : i = i / 5 * 5 ∨ i = i / 5 * 5 + 1 ∨ i = i / 5 * 5 + 2 ∨ i = i / 5 * 5 + 3 ∨ i = i / 5 * 5 + 4 := by omega
  generalize i / 5 = k at *
  rcases hr with rfl | rfl | rfl | rfl | rfl
  · rw [a0] at hu; cases hu; exact c0
  · rw [a1] at hu; cases hu; rw [← Nat.add_assoc]; exact c1
  · rw [a2] at hu; cases hu; rw [← Nat.add_assoc]; exact c2
  · rw [a3] at hu; cases hu; rw [← Nat.add_assoc]; exact c3
  · rw [a4] at hu; cases hu; rw [← Nat.add_assoc]; exact c4
end Go.Proofs.YtgcloaimolajjaaDoor
