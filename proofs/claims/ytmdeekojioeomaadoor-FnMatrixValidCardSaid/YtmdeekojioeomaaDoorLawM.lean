/- Contracts of the laws' helpers on matrices: toIntS, toIntSS, eqIntSS, szIntSS. -/
import Derived.Test.YtmdeekojioeomaaDoorMat
import Derived.Test.YtmdeekojioeomaaDoorMarks
namespace Go.Proofs.YtmdeekojioeomaaDoor
open Go.ChangeShapes Go.WideShapes Go.ChangeAt Go.RowKit Go.Deep Go.Joins
set_option linter.all false
/-- The first k entries copied. -/
def cpTo (l : List Int) (k : Nat) : List Int := l.take k ++ List.replicate (l.length - k) 0
theorem cpTo_zero (l : List Int) : cpTo l 0 = List.replicate l.length 0 := by simp [cpTo]
theorem cpTo_all (l : List Int) : cpTo l l.length = l := by simp [cpTo]
theorem cpTo_len (l : List Int) (k : Nat) (h : k ≤ l.length) : (cpTo l k).length = l.length := by simp [cpTo]; omega
theorem cpTo_set (l : List Int) (k : Nat) (h : k < l.length) : (cpTo l k).set k l[k] = cpTo l (k + 1) := by
  have e : l.length - k = (l.length - (k + 1)) + 1 := by omega
  unfold cpTo
  have e3 : l.take (k + 1) = l.take k ++ [l[k]] := List.take_succ_eq_append_getElem h
  rw [e, e3, List.replicate_succ, List.set_append_right _ _ (by simp; omega)]
  have e2 : k - (l.take k).length = 0 := by simp; omega
  rw [e2, List.set_cons_zero, List.append_assoc]
  rfl
/-- A matrix in blocks of its own, all new since w0: the outer row in block g, the rows in greater blocks, one each. -/
def FMat (w0 w : World) (A : Option Addr) (M : List (List Int)) : Prop :=
  M ≠ [] → ∃ (g : Nat) (cs : Array Value) (Gs : List Nat), A = some ⟨g, 0, none⟩ ∧ w0.heap.size ≤ g ∧ Has w g cs 64 ∧ cs.size = M.length ∧ Gs.length = M.length ∧ Gs.Pairwise (· < ·) ∧
    ∀ (k : Nat) (r : List Int) (gk : Nat), M[k]? = some r → Gs[k]? = some gk → g < gk ∧ Ints w gk r ∧ ∃ c, r.length ≤ c ∧ cs[k]? = some (.slice (some ⟨gk, 0, none⟩) r.length c)
theorem FMat.nil {w w' : World} {A : Option Addr} : FMat w w' A [] := fun h => absurd rfl h
theorem FMat.keep {w0 w w' : World} {A : Option Addr} {M : List (List Int)} (h : FMat w0 w A M) (hn : New w w') : FMat w0 w' A M := fun hne => by
  obtain ⟨g, cs, Gs, e, h1, h2, h3, h4, h5, h6⟩ := h hne
  exact ⟨g, cs, Gs, e, h1, h2.keep hn, h3, h4, h5, fun k r gk a b => ⟨(h6 k r gk a b).1, (h6 k r gk a b).2.1.keep hn, (h6 k r gk a b).2.2⟩⟩
theorem FMat.reads {w0 w : World} {A : Option Addr} {M : List (List Int)} (h : FMat w0 w A M) : MatAt w A M := fun hne => by
  obtain ⟨g, cs, Gs, e, h1, h2, h3, h4, h5, h6⟩ := h hne
  refine ⟨g, 0, e, h2.lt, fun k r hk => ?_⟩
  have hkl := (List.getElem?_eq_some_iff.1 hk).1
  obtain ⟨a, b, c, _, hc⟩ := h6 k r Gs[k] hk (List.getElem?_eq_getElem (by omega))
  exact ⟨_, c, by rw [Nat.zero_add, h2.cells k w (New.refl w)]; exact hc, b.reads⟩
/-- As MatAt, and each row's capacity holds it. -/
def MatC (w : World) (A : Option Addr) (M : List (List Int)) : Prop :=
  M ≠ [] → ∃ b off, A = some ⟨b, off, none⟩ ∧ b < w.heap.size ∧ ∀ (k : Nat) (r : List Int), M[k]? = some r → ∃ R c, r.length ≤ c ∧ w.cell? ⟨b, off + k, none⟩ = some (.slice R r.length c) ∧ IntsAt w R r
theorem MatC.reads {w : World} {A : Option Addr} {M : List (List Int)} (h : MatC w A M) : MatAt w A M := fun hne => by
  obtain ⟨b, off, e, hb, hc⟩ := h hne
  refine ⟨b, off, e, hb, fun k r hk => ?_⟩
  obtain ⟨R, c, _, h1, h2⟩ := hc k r hk
  exact ⟨R, c, h1, h2⟩
theorem MatC.keep {w w' : World} {A : Option Addr} {M : List (List Int)} (h : MatC w A M) (hn : New w w') : MatC w' A M := fun hne => by
  obtain ⟨b, off, e, hb, hc⟩ := h hne
  refine ⟨b, off, e, Nat.lt_of_lt_of_le hb hn.size, fun k r hk => ?_⟩
  obtain ⟨R, c, h0, h1, h2⟩ := hc k r hk
  exact ⟨R, c, h0, (New.cell hn (p := ⟨b, off + k, none⟩) hb).trans h1, h2.keep hn⟩
theorem MatC.at_ {w : World} {A : Option Addr} {M : List (List Int)} (h : MatC w A M) {k : Nat} (hk : k < M.length) : ∃ b off R c, A = some ⟨b, off, none⟩ ∧ M[k].length ≤ c ∧ IntsAt w R M[k] ∧ ∀ w', New w w' → w'.cell? ⟨b, off + k, none⟩ = some (.slice R M[k].length c) := by
  obtain ⟨b, off, e, hb, hc⟩ := h (by intro h0; subst h0; simp at hk)
  obtain ⟨R, c, h0, h1, h2⟩ := hc k _ (List.getElem?_eq_getElem hk)
  exact ⟨b, off, R, c, e, h0, h2, fun w' hn => (New.cell hn (p := ⟨b, off + k, none⟩) hb).trans h1⟩
theorem FMat.readsC {w0 w : World} {A : Option Addr} {M : List (List Int)} (h : FMat w0 w A M) : MatC w A M := fun hne => by
  obtain ⟨g, cs, Gs, e, h1, h2, h3, h4, h5, h6⟩ := h hne
  refine ⟨g, 0, e, h2.lt, fun k r hk => ?_⟩
  have hkl := (List.getElem?_eq_some_iff.1 hk).1
  obtain ⟨a, b, c, h0, hc⟩ := h6 k r Gs[k] hk (List.getElem?_eq_getElem (by omega))
  exact ⟨_, c, h0, by rw [Nat.zero_add, h2.cells k w (New.refl w)]; exact hc, b.reads⟩
theorem infoRow : (Tryd.prog.info? 64).map (fun i => (i.zero, i.size, i.bytes)) = some (some (.slice none 0 0), 1, 24) := by kernel_rfl
/-- What szIntSS answers: less than nothing, or all lengths are small. -/
def SzMat (M : List (List Int)) (w : World) (e : Ending) (w' : World) : Prop :=
  New w w' ∧ ((e = .returned (.int .i64 (-1))) ∨ ∃ z : Int, 0 ≤ z ∧ e = .returned (.int .i64 z) ∧ z ≤ 1048576 ∧ M.length ≤ 1048576 ∧ ∀ r ∈ M, r.length ≤ 1048576)
theorem add_zero' (a : Addr) : a.add 0 = a := by unfold Addr.add; simp
section
variable {H : Type} {enc : TypeId × Value → H} {P : Program} {w : World} {base : Nat} {spare : Nat → Bool} {held : Bool}
/-- A slice of ints reads as a list. -/
theorem open_intsAt {t e : TypeId} {fuel : Nat} {v : Value} {x : DataW H × List MemPlace} (ht : P.underlying t = some (.slice e)) (he : P.underlying e = some (.int .i64)) (hC : P.cellsOf e = 1) (h : DataW.trod enc P w base spare held fuel t [v] = some x) :
    ∃ (A : Option Addr) (cap : Nat) (l : List Int), v = .slice A l.length cap ∧ IntsAt w A l ∧ l.length ≤ maxLen := by
  rcases open_slice ht h with ⟨e1, -⟩ | ⟨a, len, cap, m, n, D, Pl, e1, hb, hl, hmx, hm, -, hi⟩
  · simp at e1
    exact ⟨none, 0, [], by simpa using e1, fun h => absurd rfl h, by simp⟩
  · have hml : len ≤ m := by rw [hm]; split <;> omega
    have hall : ∀ i, i < len → ∃ q : Int, w.cell? (a.add i) = some (.int .i64 q) := by
      intro i hil
      obtain ⟨cs', hc, ht'⟩ := hi i (by omega)
      rw [hC, Nat.mul_one] at hc
      obtain ⟨_, hcl, hat⟩ := World.cells?_some hc
      match cs', hcl with
      | [c0], _ =>
        obtain ⟨q, rfl⟩ := int_of_cell he ht'
        have := hat 0 (by omega)
        rw [add_zero'] at this
        exact ⟨q, by simpa using this⟩
    obtain ⟨L, hL, hP⟩ := list_of_all len hall
    subst hL
    refine ⟨some a, cap, L, by simpa using e1, fun hne => ?_, by omega⟩
    obtain ⟨q, hq⟩ : ∃ q, L[0]? = some q := ⟨_, List.getElem?_eq_getElem (by cases L; exact absurd rfl hne; simp)⟩
    have h00 := hP 0 q hq
    have ea : a.add 0 = a := by unfold Addr.add; simp
    rw [ea] at h00
    have hsp := spot_of_cell h00
    have hlt := World.block_lt_of_cell? w a h00
    refine ⟨a.block, a.off, by rw [← hsp], hlt, fun k g hk => ?_⟩
    have g5 := hP k g hk
    rw [hsp] at g5
    simp only [add_none] at g5
    exact g5
/-- A slice of slices of ints reads as a matrix. -/
theorem open_matAt {t e i : TypeId} {fuel : Nat} {v : Value} {x : DataW H × List MemPlace} (ht : P.underlying t = some (.slice e)) (he : P.underlying e = some (.slice i)) (hi' : P.underlying i = some (.int .i64)) (hC : P.cellsOf e = 1) (hCi : P.cellsOf i = 1)
    (h : DataW.trod enc P w base spare held fuel t [v] = some x) :
    ∃ (A : Option Addr) (cap : Nat) (M : List (List Int)), v = .slice A M.length cap ∧ MatAt w A M ∧ M.length ≤ maxLen ∧ ∀ r ∈ M, r.length ≤ maxLen := by
  rcases open_slice ht h with ⟨e1, -⟩ | ⟨a, len, cap, m, n, D, Pl, e1, hb, hl, hmx, hm, -, hi⟩
  · simp at e1
    exact ⟨none, 0, [], by simpa using e1, fun h => absurd rfl h, by simp, by simp⟩
  · have hml : len ≤ m := by rw [hm]; split <;> omega
    have hall : ∀ i, i < len → ∃ r : List Int, r.length ≤ maxLen ∧ ∃ R c, w.cell? (a.add i) = some (.slice R r.length c) ∧ IntsAt w R r := by
      intro i hil
      obtain ⟨cs', hc, ht'⟩ := hi i (by omega)
      rw [hC, Nat.mul_one] at hc
      obtain ⟨_, hcl, hat⟩ := World.cells?_some hc
      match cs', hcl with
      | [c0], _ =>
        obtain ⟨R, c, r, rfl, hR, hm⟩ := open_intsAt he hi' hCi ht'
        have := hat 0 (by omega)
        rw [add_zero'] at this
        exact ⟨r, hm, R, c, by simpa using this, hR⟩
    obtain ⟨L, hL, hP⟩ := list_of_all len hall
    subst hL
    refine ⟨some a, cap, L, by simpa using e1, fun hne => ?_, by omega, fun r hr => ?_⟩
    · obtain ⟨q, hq⟩ : ∃ q, L[0]? = some q := ⟨_, List.getElem?_eq_getElem (by cases L; exact absurd rfl hne; simp)⟩
      obtain ⟨_, R, c, h00, _⟩ := hP 0 q hq
      have ea : a.add 0 = a := by unfold Addr.add; simp
      rw [ea] at h00
      have hsp := spot_of_cell h00
      have hlt := World.block_lt_of_cell? w a h00
      refine ⟨a.block, a.off, by rw [← hsp], hlt, fun k g hk => ?_⟩
      obtain ⟨_, R, c, g1, g2⟩ := hP k g hk
      rw [hsp] at g1
      simp only [add_none] at g1
      exact ⟨R, c, g1, g2⟩
    · obtain ⟨j, hj, rfl⟩ := List.getElem_of_mem hr
      exact (hP j _ (List.getElem?_eq_getElem hj)).1
end
end Go.Proofs.YtmdeekojioeomaaDoor
