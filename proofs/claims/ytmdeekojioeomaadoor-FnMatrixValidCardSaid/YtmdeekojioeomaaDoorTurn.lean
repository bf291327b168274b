/- Square matrices that a call makes and fills; contracts of squareOf, MatrixTurn (program and reference). -/
import Derived.Test.YtmdeekojioeomaaDoorLawM
namespace Go.Proofs.YtmdeekojioeomaaDoor
open Go.RowKit
set_option linter.all false
def sq (n : Nat) (f : Nat → Nat → Int) : List (List Int) := (List.range n).map fun c => (List.range n).map fun r => f c r
def upd (f : Nat → Nat → Int) (c r : Nat) (v : Int) : Nat → Nat → Int := fun a b => if a = c ∧ b = r then v else f a b
theorem sq_length (n : Nat) (f : Nat → Nat → Int) : (sq n f).length = n := by simp [sq]
theorem sq_row (n : Nat) (f : Nat → Nat → Int) (c : Nat) (h : c < n) : (sq n f)[c]? = some ((List.range n).map fun r => f c r) := by simp [sq, h]
theorem sq_rows {n : Nat} {f : Nat → Nat → Int} {r : List Int} (h : r ∈ sq n f) : r.length = n := by
  unfold sq at h
  simp at h
  obtain ⟨c, _, rfl⟩ := h
  simp
theorem sq_congr {n : Nat} {f g : Nat → Nat → Int} (h : ∀ c r, c < n → r < n → f c r = g c r) : sq n f = sq n g := by
  unfold sq
  apply List.map_congr_left
  intro c hc
  apply List.map_congr_left
  intro r hr
  exact h c r (by simpa using hc) (by simpa using hr)
theorem sq_set (n : Nat) (f : Nat → Nat → Int) (c r : Nat) (v : Int) (hc : c < n) (hr : r < n) : (sq n f).set c (((List.range n).map fun r => f c r).set r v) = sq n (upd f c r v) := by
  apply List.ext_getElem?
  intro i
  rw [List.getElem?_set, sq_length]
  by_cases hi : c = i
  · subst hi
    rw [if_pos rfl, if_pos hc, sq_row _ _ _ hc]
    congr 1
    apply List.ext_getElem?
    intro j
    rw [List.getElem?_set]
    by_cases hj : r = j
    · subst hj
      simp [hr, upd]
    · rw [if_neg hj]
      by_cases hjn : j < n
      · have : ¬ j = r := fun e => hj e.symm
        simp [hjn, upd, this]
      · simp [hjn]
  · rw [if_neg hi]
    have : ¬ i = c := fun e => hi e.symm
    by_cases hin : i < n
    · rw [sq_row _ _ _ hin, sq_row _ _ _ hin]
      simp [upd, this]
    · rw [List.getElem?_eq_none (by rw [sq_length]; omega), List.getElem?_eq_none (by rw [sq_length]; omega)]
theorem FMat.older {w0 w1 w : World} {A : Option Addr} {M : List (List Int)} (h : FMat w1 w A M) (hs : w0.heap.size ≤ w1.heap.size) : FMat w0 w A M := fun hne => by
  obtain ⟨g, cs, Gs, e, h1, h2⟩ := h hne
  exact ⟨g, cs, Gs, e, Nat.le_trans hs h1, h2⟩
/-- A store into row c of such a matrix. -/
theorem FMat.store {w0 w : World} {g : Nat} {cs : Array Value} {Gs : List Nat} {M : List (List Int)} {c gk : Nat} {row : List Int} (h1 : w0.heap.size ≤ g) (h2 : Has w g cs 64) (h3 : cs.size = M.length) (h4 : Gs.length = M.length) (h5 : Gs.Pairwise (· < ·))
    (h6 : ∀ (k : Nat) (r : List Int) (gk : Nat), M[k]? = some r → Gs[k]? = some gk → g < gk ∧ Ints w gk r ∧ ∃ c, r.length ≤ c ∧ cs[k]? = some (.slice (some ⟨gk, 0, none⟩) r.length c))
    (hg : Gs[c]? = some gk) (hr : M[c]? = some row) (i : Nat) (v : Int) : FMat w0 (w.setCell ⟨gk, i, none⟩ (.int .i64 v)) (some ⟨g, 0, none⟩) (M.set c (row.set i v)) := fun _ => by
  have hcl := (List.getElem?_eq_some_iff.1 hr).1
  obtain ⟨a1, a2, a3⟩ := h6 c row gk hr hg
  refine ⟨g, cs, Gs, rfl, h1, h2.far (p := ⟨gk, i, none⟩) (by simp; omega) _, by simpa using h3, by simpa using h4, h5, fun k r gj hk hj => ?_⟩
  rw [List.getElem?_set] at hk
  by_cases hck : c = k
  · subst hck
    rw [if_pos rfl, if_pos hcl] at hk
    rw [hg] at hj
    simp only [Option.some.injEq] at hk hj
    subst hk hj
    exact ⟨a1, a2.set i v, by simpa using a3⟩
  · rw [if_neg hck] at hk
    obtain ⟨b1, b2, b3⟩ := h6 k r gj hk hj
    refine ⟨b1, b2.far (p := ⟨gk, i, none⟩) ?_ _, b3⟩
    show gj ≠ gk
    have hc1 := (List.getElem?_eq_some_iff.1 hg)
    have hk1 := (List.getElem?_eq_some_iff.1 hj)
    obtain ⟨c1, c2⟩ := hc1
    obtain ⟨k1, k2⟩ := hk1
    have hp := List.pairwise_iff_getElem.1 h5
    rcases Nat.lt_or_ge c k with hlt | hge
    · have := hp c k c1 k1 hlt; omega
    · have := hp k c k1 c1 (by omega); omega
def mAt (M : List (List Int)) (r c : Nat) : Int := (M.getD r []).getD c 0
/-- What MatrixTurn returns. -/
def turnM (M : List (List Int)) : List (List Int) := if mvB M then sq M.length fun c r => mAt M r c else []
theorem turnM_no {M : List (List Int)} (h : mvB M = false) : turnM M = [] := by simp [turnM, h]
theorem turnM_ok {M : List (List Int)} (h : mvB M = true) : turnM M = sq M.length fun c r => mAt M r c := by simp [turnM, h]
def tF (M : List (List Int)) (i j : Nat) : Nat → Nat → Int := fun c r => if r < i ∨ (r = i ∧ c < j) then mAt M r c else 0
theorem tF_zero (M : List (List Int)) (n : Nat) : sq n (tF M 0 0) = sq n fun _ _ => 0 := sq_congr fun c r _ _ => by unfold tF; rw [if_neg (by omega)]
theorem tF_step (M : List (List Int)) (i j : Nat) : upd (tF M i j) j i (mAt M i j) = tF M i (j + 1) := by
  funext c r
  unfold upd tF
  by_cases h : c = j ∧ r = i
  · obtain ⟨rfl, rfl⟩ := h
    rw [if_pos ⟨rfl, rfl⟩, if_pos (by omega)]
  · rw [if_neg h]
    by_cases h2 : r < i ∨ (r = i ∧ c < j)
    · rw [if_pos h2, if_pos (by omega)]
    · rw [if_neg h2, if_neg (by omega)]
theorem tF_next (M : List (List Int)) (n i : Nat) : sq n (tF M i n) = sq n (tF M (i + 1) 0) := sq_congr fun c r hc _ => by
  unfold tF
  by_cases h : r < i ∨ (r = i ∧ c < n)
  · rw [if_pos h, if_pos (by omega)]
  · rw [if_neg h, if_neg (by omega)]
theorem tF_all (M : List (List Int)) (n : Nat) : sq n (tF M n 0) = sq n fun c r => mAt M r c := sq_congr fun c r _ hr => by unfold tF; rw [if_pos (by omega)]
theorem mAt_get {M : List (List Int)} {r c : Nat} (hr : r < M.length) (hc : c < M[r].length) : M[r][c] = mAt M r c := by unfold mAt; simp [hr, hc]
theorem own_ne {w : World} {base : Nat} {e : TypeId} {size n : Nat} {v : Value} {xs : List Value} {gj : Nat} {l : List Int} (h : w.ownsRow base e size v n xs) (hI : Ints w gj l) (hne : e ≠ 3) : v.ownBlock ≠ some gj := by
  obtain ⟨cs, h1, _⟩ := hI
  rcases h.2 with ⟨rfl, _⟩ | ⟨g, cap, cur, rfl, _, hh, _⟩
  · simp [Value.ownBlock]
  · intro he
    have : g = gj := by simpa [Value.ownBlock] using he
    subst this
    unfold Has at h1
    rw [hh] at h1
    simp only [Option.some.injEq, Obj.cells.injEq] at h1
    exact hne h1.2.1
def colF (M : List (List Int)) (n j : Nat) : List Int := (List.range n).map fun r => mAt M r j
theorem colF_length (M : List (List Int)) (n j : Nat) : (colF M n j).length = n := by simp [colF]
theorem colF_take (M : List (List Int)) (n j q : Nat) (h : q < n) : (colF M n j).take (q + 1) = (colF M n j).take q ++ [mAt M q j] := by
  rw [List.take_add_one]
  simp [colF, h]
theorem sq_col (M : List (List Int)) (n j : Nat) (h : j < n) : (sq n fun c r => mAt M r c)[j]? = some (colF M n j) := sq_row _ _ _ h
theorem slice_oneCell (a : Option Addr) (n c : Nat) : ∀ u ∈ [Value.slice a n c], u.oneCell' = true := by
  intro u hu; simp at hu; subst hu; rfl
end Go.Proofs.YtmdeekojioeomaaDoor
