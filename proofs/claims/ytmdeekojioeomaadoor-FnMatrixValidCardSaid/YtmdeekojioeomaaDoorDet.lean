/- Contracts of Det: detFrom (program: a bit mask of used columns), l2Minor and l2Det (reference). -/
import Derived.Test.YtmdeekojioeomaaDoorDetP
import Derived.Deep.AppendLies
namespace Go.Proofs.YtmdeekojioeomaaDoor
open Go.RowKit
set_option linter.all false
/-- F: the columns before n whose bits u lacks, in order. -/
def Free (n u : Nat) (F : List Nat) : Prop := F.Pairwise (· < ·) ∧ ∀ c, c ∈ F ↔ c < n ∧ u.testBit c = false
/-- j of the columns of F lie before c. -/
def Upto (F : List Nat) (c j : Nat) : Prop := j ≤ F.length ∧ ∀ (i x : Nat), F[i]? = some x → (i < j ↔ x < c)
theorem Free.all (n : Nat) : Free n 0 (List.range n) := ⟨List.pairwise_lt_range, fun c => by simp⟩
theorem Upto.zero (F : List Nat) : Upto F 0 0 := ⟨Nat.zero_le _, fun i x _ => by omega⟩
theorem Free.used {n u : Nat} {F : List Nat} (h : Free n u F) {c j : Nat} (hj : Upto F c j) (hb : u.testBit c = true) : Upto F (c + 1) j := by
  refine ⟨hj.1, fun i x hx => ?_⟩
  rw [hj.2 i x hx]
  have hne : x ≠ c := fun e => by
    subst e
    have := (h.2 x).1 (List.mem_of_getElem? hx)
    rw [hb] at this
    exact absurd this.2 (by decide)
  omega
theorem Free.at_ {n u : Nat} {F : List Nat} (h : Free n u F) {c j : Nat} (hj : Upto F c j) (hc : c < n) (hb : u.testBit c = false) : F[j]? = some c := by
  obtain ⟨i, hi, he⟩ := List.getElem_of_mem ((h.2 c).2 ⟨hc, hb⟩)
  have hx : F[i]? = some c := by rw [List.getElem?_eq_getElem hi, he]
  have h1 := hj.2 i c hx
  have hp := List.pairwise_iff_getElem.1 h.1
  rcases Nat.lt_trichotomy i j with hlt | rfl | hgt
  · omega
  · exact hx
  · have h2 := hp j i (by omega) hi hgt
    have h3 := hj.2 j _ (List.getElem?_eq_getElem (by omega))
    omega
theorem Free.next {n u : Nat} {F : List Nat} (h : Free n u F) {c j : Nat} (hj : Upto F c j) (hc : c < n) (hb : u.testBit c = false) : Upto F (c + 1) (j + 1) := by
  have ha := h.at_ hj hc hb
  obtain ⟨hl, he⟩ := List.getElem?_eq_some_iff.1 ha
  have hp := List.pairwise_iff_getElem.1 h.1
  refine ⟨hl, fun i x hx => ?_⟩
  obtain ⟨hil, hie⟩ := List.getElem?_eq_some_iff.1 hx
  rcases Nat.lt_trichotomy i j with hlt | rfl | hgt
  · have := hp i j hil hl hlt; omega
  · omega
  · have := hp j i hl hil hgt; omega
theorem Free.erase {n u : Nat} {F : List Nat} (h : Free n u F) {c j : Nat} (hj : Upto F c j) (hc : c < n) (hb : u.testBit c = false) : Free n (u ||| 2 ^ c) (F.eraseIdx j) := by
  have ha := h.at_ hj hc hb
  obtain ⟨hl, he⟩ := List.getElem?_eq_some_iff.1 ha
  have hp := List.pairwise_iff_getElem.1 h.1
  refine ⟨h.1.sublist (List.eraseIdx_sublist _ _), fun x => ?_⟩
  rw [Nat.testBit_or, Nat.testBit_two_pow, Bool.or_eq_false_iff, decide_eq_false_iff_not, ← and_assoc, ← h.2 x, List.mem_eraseIdx_iff_getElem?]
  constructor
  · rintro ⟨i, hne, hx⟩
    obtain ⟨hil, hie⟩ := List.getElem?_eq_some_iff.1 hx
    refine ⟨List.mem_of_getElem? hx, fun e => ?_⟩
    rcases Nat.lt_trichotomy i j with hlt | rfl | hgt
    · have := hp i j hil hl hlt; omega
    · exact hne rfl
    · have := hp j i hl hil hgt; omega
  · rintro ⟨hx, hne⟩
    obtain ⟨i, hil, hie⟩ := List.getElem_of_mem hx
    exact ⟨i, fun e => hne (by subst e; omega), by rw [List.getElem?_eq_getElem hil, hie]⟩
theorem Free.last {n u : Nat} {F : List Nat} (h : Free n u F) {j : Nat} (hj : Upto F n j) : j = F.length := by
  rcases Nat.lt_or_ge j F.length with hlt | hge
  · have h3 := hj.2 j _ (List.getElem?_eq_getElem hlt)
    have := (h.2 F[j]).1 (List.getElem_mem hlt)
    omega
  · have := hj.1; omega
theorem and_one32 : ∀ u : Fin 32, ∀ c : Fin 5, bits .and .i64 ((u.val : Int) / 2 ^ c.val) 1 = if u.val.testBit c.val then 1 else 0 := by decide +kernel
theorem or_pow32 : ∀ u : Fin 32, ∀ c : Fin 5, bits .or .i64 (u.val : Int) (2 ^ c.val) = ((u.val ||| 2 ^ c.val : Nat) : Int) ∧ u.val ||| 2 ^ c.val < 32 := by decide +kernel
theorem wrap_pow5 : ∀ c : Fin 5, IntKind.i64.wrap (2 ^ c.val) = 2 ^ c.val := by decide +kernel
end Go.Proofs.YtmdeekojioeomaaDoor
