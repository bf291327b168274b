/- The memory of the search by circles: a row of bools, a row of steps, the waiting line; slices.Reverse at steps. -/
import Derived.Test.YtgcloaimolajjaaDoorBfsP
import Derived.Test.YtgcloaimolajjaaDoorSParts
import Derived.Test.YtgcloaimolajjaaDoorLawSt
import Derived.ArgAppend
import Derived.StillTailTactics
namespace Go.Proofs.YtgcloaimolajjaaDoor
open Go.RowKit
set_option linter.all false
theorem madeCells_get (z : Array Value) (n k : Nat) (h : k < n) : (madeCells z n)[k]? = some (z[k % z.size]!) := by
  simp [madeCells, h]
/-- The cells of block g are these bools. -/
def Bools (w : World) (g : Nat) (l : List Bool) : Prop := ∃ cs : Array Value, Has w g cs 4 ∧ l.length ≤ cs.size ∧ ∀ (k : Nat) (x : Bool), l[k]? = some x → cs[k]? = some (.bool x)
theorem Bools.keep {w w' : World} {g : Nat} {l : List Bool} (h : Bools w g l) (hn : New w w') : Bools w' g l := by
  obtain ⟨cs, h1, h2⟩ := h
  exact ⟨cs, h1.keep hn, h2⟩
theorem Bools.lt {w : World} {g : Nat} {l : List Bool} (h : Bools w g l) : g < w.heap.size := by
  obtain ⟨cs, h1, h2⟩ := h
  exact h1.lt
theorem Bools.far {w : World} {g : Nat} {l : List Bool} (h : Bools w g l) {p : Addr} (hp : g ≠ p.block) (v : Value) : Bools (w.setCell p v) g l := by
  obtain ⟨cs, h1, h2⟩ := h
  exact ⟨cs, h1.far hp v, h2⟩
theorem Bools.only {W w' : World} {b g : Nat} {l : List Bool} (h : Bools W b l) (ho : Only g W w') (hne : b ≠ g) : Bools w' b l := by
  obtain ⟨cs, h1, h2⟩ := h
  exact ⟨cs, h1.only ho hne, h2⟩
theorem Bools.cell {w : World} {g : Nat} {l : List Bool} (h : Bools w g l) {k : Nat} {x : Bool} (hk : l[k]? = some x) : ∀ w', New w w' → w'.cell? ⟨g, k, none⟩ = some (.bool x) := by
  obtain ⟨cs, h1, h2, h3⟩ := h
  intro w' hn
  rw [h1.cells k w' hn, h3 k x hk]
theorem Bools.free {w : World} {g : Nat} {l : List Bool} (h : Bools w g l) : ∀ (k : Nat) (w' : World), New w w' → w'.frozen? ⟨g, k, none⟩ = false := by
  obtain ⟨cs, h1, h2, h3⟩ := h
  exact fun k => h1.frees k
theorem Bools.set {w : World} {g : Nat} {l : List Bool} (h : Bools w g l) (k : Nat) (x : Bool) : Bools (w.setCell ⟨g, k, none⟩ (.bool x)) g (l.set k x) := by
  obtain ⟨cs, h1, h2, h3⟩ := h
  refine ⟨_, h1.set k _, by simpa using h2, fun j y hj => ?_⟩
  rw [List.getElem?_set] at hj
  rw [Array.getElem?_setIfInBounds]
  by_cases hkj : k = j
  · subst hkj
    rw [if_pos rfl] at hj
    rw [if_pos rfl]
    split at hj
    · simp at hj; subst hj; rw [if_pos (by omega)]
    · cases hj
  · rw [if_neg hkj] at hj
    rw [if_neg hkj]
    exact h3 j y hj
theorem infoBool : (Tryd.prog.info? 4).map (fun i => (i.zero, i.size, i.bytes)) = some (some (.bool false), 1, 1) := by kernel_rfl
theorem makeBools (n : Nat) (hn : n ≤ 1099511627776) : ∀ w : World, (Instr.makeSlice 76 (.int .i64 (n : Int)) (.int .i64 (n : Int))).run Tryd.prog w =
    .ok (.slice (some ⟨w.heap.size, 0, none⟩) n n) (w.alloc (.cells (madeCells #[.bool false] n) 4)) := by
  intro w
  obtain ⟨i0, hi, hz, hs, hb⟩ := info_parts infoBool
  have h := run_make (P := Tryd.prog) w 76 4 i0 _ Tryd.underlying76 hi hz .i64 .i64 n n (by omega) (by omega) (by rw [hb]; omega) (by omega)
  rw [hs, Nat.mul_one] at h
  simp only [Int.toNat_natCast] at h
  exact h
theorem Bools.made (w : World) (n : Nat) : Bools (w.alloc (.cells (madeCells #[.bool false] n) 4)) w.heap.size (List.replicate n false) :=
  ⟨_, Has.new _ _ _, by rw [size_madeCells]; simp, fun k x hk => by
    rw [List.getElem?_replicate] at hk
    split at hk
    · rename_i hkn
      simp at hk; subst hk
      rw [madeCells_get _ _ _ hkn]
      simp [Nat.mod_one]
    · cases hk⟩
theorem StepBlk.far {w : World} {g : Nat} {S : List St} (h : StepBlk w g S) {p : Addr} (hp : g ≠ p.block) (v : Value) : StepBlk (w.setCell p v) g S := by
  obtain ⟨cs, h1, h2⟩ := h
  exact ⟨cs, h1.far hp v, h2⟩
theorem StepBlk.only {W w' : World} {b g : Nat} {S : List St} (h : StepBlk W b S) (ho : Only g W w') (hne : b ≠ g) : StepBlk w' b S := by
  obtain ⟨cs, h1, h2⟩ := h
  exact ⟨cs, h1.only ho hne, h2⟩
theorem StepBlk.grown {W w' : World} {b : Nat} {S : List St} {row : Option Nat} (h : StepBlk W b S) (ho : W.grownBy w' row) (hne : row ≠ some b) : StepBlk w' b S := by
  obtain ⟨cs, h1, h2⟩ := h
  exact ⟨cs, (ho.block b h1.lt (fun e => hne e.symm)).trans h1, h2⟩
theorem StepBlk.cell {w : World} {g : Nat} {S : List St} (h : StepBlk w g S) {k : Nat} {x : St} (hk : S[k]? = some x) : ∀ w', New w w' → w'.cell? ⟨g, k * 2, none⟩ = some (.int .i64 x.i) ∧ w'.cell? ⟨g, k * 2 + 1, none⟩ = some (.bool x.b) := by
  obtain ⟨cs, h1, h2, h3⟩ := h
  intro w' hn
  rw [h1.cells _ w' hn, h1.cells _ w' hn]
  exact h3 k x hk
theorem StepBlk.free {w : World} {g : Nat} {S : List St} (h : StepBlk w g S) : ∀ (k : Nat) (w' : World), New w w' → w'.frozen? ⟨g, k, none⟩ = false := by
  obtain ⟨cs, h1, h2, h3⟩ := h
  exact fun k => h1.frees k
theorem StepBlk.set {w : World} {g : Nat} {S : List St} (h : StepBlk w g S) (k : Nat) (x : St) (hk : k < S.length) : StepBlk ((w.setCell ⟨g, k * 2, none⟩ (.int .i64 x.i)).setCell ⟨g, k * 2 + 1, none⟩ (.bool x.b)) g (S.set k x) := by
  obtain ⟨cs, h1, h2, h3⟩ := h
  refine ⟨put2 cs k (.int .i64 x.i) (.bool x.b), h1.put2 k _ _, by rw [put2_size]; simpa using h2, fun j y hj => ?_⟩
  rw [List.getElem?_set] at hj
  by_cases hkj : k = j
  · subst hkj
    rw [if_pos rfl, if_pos hk] at hj
    simp at hj
    subst hj
    exact put2_at cs k _ _ (by omega)
  · rw [if_neg hkj] at hj
    obtain ⟨h4, h5⟩ := h3 j y hj
    refine ⟨?_, ?_⟩ <;> (rw [put2_far _ _ _ _ _ (by omega)]; assumption)
theorem StepBlk.made (w : World) (n : Nat) : StepBlk (w.alloc (.cells (madeCells #[.int .i64 0, .bool false] (n * 2)) 40)) w.heap.size (List.replicate n ⟨0, false⟩) :=
  ⟨_, Has.new _ _ _, by rw [size_madeCells]; simp, fun k x hk => by
    rw [List.getElem?_replicate] at hk
    split at hk
    · rename_i hkn
      simp at hk; subst hk
      refine ⟨?_, ?_⟩
      · rw [madeCells_get _ _ _ (by omega)]
        have : k * 2 % 2 = 0 := by omega
        simp [this]
      · rw [madeCells_get _ _ _ (by omega)]
        have : (k * 2 + 1) % 2 = 1 := by omega
        simp [this]
    · cases hk⟩
/-- The steps as cells. -/
def stC (S : List St) : List Value := S.flatMap fun x => [.int .i64 x.i, .bool x.b]
theorem stC_nil : stC [] = [] := rfl
theorem stC_snoc (S : List St) (x : St) : stC (S ++ [x]) = stC S ++ [.int .i64 x.i, .bool x.b] := by simp [stC]
theorem stC_cons (S : List St) (x : St) : stC (x :: S) = [.int .i64 x.i, .bool x.b] ++ stC S := by simp [stC]
theorem stC_append (S R : List St) : stC (S ++ R) = stC S ++ stC R := by simp [stC]
theorem stC_len (S : List St) : (stC S).length = S.length * 2 := by
  induction S with
  | nil => rfl
  | cons x S ih => rw [stC_cons, List.length_append, ih]; simp; omega
theorem stC_get : ∀ (S : List St) (k : Nat) (x : St), S[k]? = some x → (stC S)[k * 2]? = some (.int .i64 x.i) ∧ (stC S)[k * 2 + 1]? = some (.bool x.b)
  | y :: S, 0, x, h => by
    simp at h
    subst h
    rw [stC_cons]
    exact ⟨rfl, rfl⟩
  | y :: S, k + 1, x, h => by
    obtain ⟨h1, h2⟩ := stC_get S k x (by simpa using h)
    rw [stC_cons, List.getElem?_append_right (by simp; omega), List.getElem?_append_right (by simp; omega)]
    have e1 : (k + 1) * 2 - ([Value.int .i64 y.i, .bool y.b] : List Value).length = k * 2 := by simp; omega
    have e2 : (k + 1) * 2 + 1 - ([Value.int .i64 y.i, .bool y.b] : List Value).length = k * 2 + 1 := by simp; omega
    rw [e1, e2]
    exact ⟨h1, h2⟩
theorem stC_one (S : List St) : ∀ u ∈ stC S, u.oneCell' = true := by
  intro u hu
  unfold stC at hu
  rw [List.mem_flatMap] at hu
  obtain ⟨x, _, hx⟩ := hu
  simp at hx
  rcases hx with rfl | rfl <;> rfl
/-- A slice that reads as these steps, in memory that is new. -/
def FSteps (w w' : World) (A : Option Addr) (S : List St) : Prop := S ≠ [] → ∃ g, A = some ⟨g, 0, none⟩ ∧ w.heap.size ≤ g ∧ StepBlk w' g S
theorem FSteps.nil {w w' : World} {A : Option Addr} : FSteps w w' A [] := fun h => absurd rfl h
theorem FSteps.reads {w w' : World} {A : Option Addr} {S : List St} (h : FSteps w w' A S) : StepsAt w' A S := fun hne => by
  obtain ⟨g, rfl, _, h1⟩ := h hne
  exact h1.reads hne
theorem FSteps.keep {w0 w w' : World} {A : Option Addr} {S : List St} (h : FSteps w0 w A S) (hn : New w w') : FSteps w0 w' A S := fun hne => by
  obtain ⟨g, e, h0, h1⟩ := h hne
  exact ⟨g, e, h0, h1.keep hn⟩
theorem FSteps.only {w0 w w' : World} {A : Option Addr} {S : List St} {g : Nat} (h : FSteps w0 w A S) (ho : Only g w w') (hg : g < w0.heap.size) : FSteps w0 w' A S := fun hne => by
  obtain ⟨g', e, h0, h1⟩ := h hne
  exact ⟨g', e, h0, h1.only ho (by omega)⟩
theorem FSteps.older {w0 w1 w : World} {A : Option Addr} {S : List St} (h : FSteps w1 w A S) (hs : w0.heap.size ≤ w1.heap.size) : FSteps w0 w A S := fun hne => by
  obtain ⟨g, e, h0, h1⟩ := h hne
  exact ⟨g, e, by omega, h1⟩
theorem StepBlk.of_own {w : World} {base : Nat} {v : Value} {n : Nat} {S : List St} (h : w.ownsRow base 40 2 v n (stC S)) :
    n = S.length ∧ ((v = .slice none 0 0 ∧ S = []) ∨ ∃ g cap, v = .slice (some ⟨g, 0, none⟩) S.length cap ∧ base ≤ g ∧ StepBlk w g S) := by
  obtain ⟨h1, h2⟩ := h
  rw [stC_len] at h1
  have hn : n = S.length := by omega
  subst hn
  refine ⟨rfl, ?_⟩
  rcases h2 with ⟨e, h0⟩ | ⟨g, cap, cur, e, hg, hh, hc, hm, hs, ht⟩
  · exact .inl ⟨e, List.eq_nil_of_length_eq_zero h0⟩
  · refine .inr ⟨g, cap, e, hg, cur, hh, by rw [hs]; omega, fun k x hk => ?_⟩
    have hkl := (List.getElem?_eq_some_iff.1 hk).1
    obtain ⟨g1, g2⟩ := stC_get S k x hk
    rw [← ht, List.getElem?_take, if_pos (by omega)] at g1 g2
    exact ⟨by simpa using g1, by simpa using g2⟩
theorem FSteps.of_own {w0 w : World} {base : Nat} {v : Value} {n : Nat} {S : List St} (h : w.ownsRow base 40 2 v n (stC S)) (hb : w0.heap.size ≤ base) :
    ∃ B cp, v = .slice B S.length cp ∧ FSteps w0 w B S := by
  obtain ⟨rfl, ⟨rfl, rfl⟩ | ⟨g, cap, rfl, hg, hS⟩⟩ := StepBlk.of_own h
  · exact ⟨none, 0, rfl, FSteps.nil⟩
  · exact ⟨_, cap, rfl, fun _ => ⟨g, rfl, by omega, hS⟩⟩
/-- A waiting line: a slice of ints somewhere in a block of its own, with what room there is behind it. -/
def QOwn (w : World) (base : Nat) (v : Value) (l : List Int) : Prop := ∃ (g off cap : Nat) (cs : Array Value), v = .slice (some ⟨g, off, none⟩) l.length cap ∧ base ≤ g ∧ Has w g cs 3 ∧ off + cap ≤ cs.size ∧ l.length ≤ cap ∧ ∀ (k : Nat) (x : Int), l[k]? = some x → cs[off + k]? = some (.int .i64 x)
theorem QOwn.keep {w w' : World} {base : Nat} {v : Value} {l : List Int} (h : QOwn w base v l) (hn : New w w') : QOwn w' base v l := by
  obtain ⟨g, off, cap, cs, h1, h2, h3, h4⟩ := h
  exact ⟨g, off, cap, cs, h1, h2, h3.keep hn, h4⟩
theorem QOwn.far {w : World} {base : Nat} {v : Value} {l : List Int} (h : QOwn w base v l) {p : Addr} (hp : p.block < base) (x : Value) : QOwn (w.setCell p x) base v l := by
  obtain ⟨g, off, cap, cs, h1, h2, h3, h4⟩ := h
  exact ⟨g, off, cap, cs, h1, h2, h3.far (by omega) x, h4⟩
theorem QOwn.one (w : World) (x : Int) : QOwn (w.alloc (.cells #[.int .i64 x] 3)) w.heap.size (.slice (some ⟨w.heap.size, 0, none⟩) 1 1) [x] :=
  ⟨_, 0, 1, _, rfl, Nat.le_refl _, Has.new _ _ _, by simp, by simp, fun k y hk => by
    rcases k with _ | k
    · simp at hk; subst hk; rfl
    · simp at hk⟩
theorem QOwn.pop {w : World} {base g off cap : Nat} {x : Int} {l : List Int} (h : QOwn w base (.slice (some ⟨g, off, none⟩) (l.length + 1) cap) (x :: l)) :
    QOwn w base (.slice (if cap = 1 then some ⟨g, off, none⟩ else some ⟨g, off + 1, none⟩) l.length (cap - 1)) l := by
  obtain ⟨g', off', cap', cs, h1, h2, h3, h4, h5, h6⟩ := h
  simp only [Value.slice.injEq, Option.some.injEq, Addr.mk.injEq, and_true] at h1
  obtain ⟨⟨rfl, rfl⟩, -, rfl⟩ := h1
  simp only [List.length_cons] at h5
  by_cases hc : cap = 1
  · rw [if_pos hc]
    have hl : l = [] := List.eq_nil_of_length_eq_zero (by omega)
    subst hl
    exact ⟨g, off, cap - 1, cs, rfl, h2, h3, by omega, by simp, fun k y hk => by simp at hk⟩
  · rw [if_neg hc]
    refine ⟨g, off + 1, cap - 1, cs, rfl, h2, h3, by omega, by omega, fun k y hk => ?_⟩
    have := h6 (k + 1) y (by simpa using hk)
    rw [← this]
    congr 1
    omega
theorem New.of_only {a b : World} {B g : Nat} (h : Only g a b) (hB : B ≤ a.heap.size) (hg : B ≤ g) : Below B a b := h.below hg hB
/-- append at a waiting line. -/
theorem wpList_append_q {w : World} {ops : Array Oper} {rest : List Oper} {o : Oper} {a : Act} {Q : Exit → Act → World → Prop} (hgd : o.guard = none) (s x : Operand)
    (ho : o.op = Op.call { callee := Callee.builtin Builtin.append, args := #[s, x], argTypes := #[30, 30] })
    (base : Nat) (v : Value) (l : List Int) (hq : QOwn w base v l) (hs : a.eval s = v) (b0 c : Nat) (y : Int) (hx : a.eval x = .slice (some ⟨b0, 0, none⟩) 1 c) (hc : w.cell? ⟨b0, 0, none⟩ = some (.int .i64 y))
    (hlen : l.length + 1 ≤ 1000) (hbase : base ≤ w.heap.size)
    (h : ∀ v' w', QOwn w' base v' (l ++ [y]) → (∀ b cs T, T ≠ 3 → Has w b cs T → Has w' b cs T) → Below base w w' → wpList Tryd.prog ops Q rest (a.put o.dst v') w') : wpList Tryd.prog ops Q (o :: rest) a w := by
  obtain ⟨i0, hi, hz, hsz, hb⟩ := info_parts infoInt
  obtain ⟨g, off, cap, cs, rfl, h2, h3, h4, h5, h6⟩ := hq
  refine wpList_append_arg w hgd s x 30 ho 3 i0 (.int .i64 0) 1 8 Tryd.underlying30 hi hz hsz hb rfl (by decide) g off l.length cap (l.map (Value.int .i64)) hs (by simp) (fun j u hu => ?_)
    ⟨b0, 0, none⟩ 1 c [.int .i64 y] hx rfl (fun j u hu => ?_) (one_oneCell y) (fun hr j hj => ?_) (by unfold maxLen; omega) (by omega) (fun hr => ?_) (fun hg v' w' hown hgr => ?_)
  · rw [List.getElem?_map] at hu
    cases hl : l[j]? with
    | none => rw [hl] at hu; cases hu
    | some q =>
      rw [hl] at hu
      simp at hu
      subst hu
      rw [h3.cells _ w (New.refl w)]
      exact h6 j q hl
  · rcases j with _ | j
    · simp at hu
      subst hu
      simpa [Addr.add] using hc
    · simp at hu
  · simp at hj
    subst hj
    rw [h3.cells _ w (New.refl w)]
    refine ⟨?_, h3.free _⟩
    rw [Array.getElem?_eq_getElem (by omega)]
    rfl
  · refine h _ _ ⟨g, off, cap, cs.setIfInBounds (off + l.length) (.int .i64 y), by simp, h2, ?_, by simpa using h4, by simp; omega, fun k z hk => ?_⟩ (fun b cs' T hT hb => ?_) (((Only.refl g w).setCell rfl _).below h2 hbase)
    · have := h3.set (off + l.length) (.int .i64 y)
      simpa [World.setCells] using this
    · rw [Array.getElem?_setIfInBounds]
      by_cases hkl : k = l.length
      · subst hkl
        rw [if_pos rfl, if_pos (by omega)]
        simp at hk
        rw [hk]
      · rw [if_neg (by omega)]
        rw [List.getElem?_append_left (by have := (List.getElem?_eq_some_iff.1 hk).1; simp at this; omega)] at hk
        exact h6 k z hk
    · refine hb.far (fun e => hT ?_) _
      simp only at e
      subst e
      unfold Has at h3 hb
      rw [h3] at hb
      simp only [Option.some.injEq, Obj.cells.injEq] at hb
      exact hb.2.1.symm
  · have e : l.map (Value.int .i64) ++ [.int .i64 y] = (l ++ [y]).map (Value.int .i64) := by simp
    rw [e] at hown
    refine h v' w' ?_ (fun b cs' T _ hb => (hgr.block b hb.lt (by simp)).trans hb) ⟨hgr.os, hgr.tape, hgr.output, hgr.size, fun k hk => hgr.block k (by omega) (by simp)⟩
    obtain ⟨e1, e2⟩ := hown
    rcases e2 with ⟨_, hl⟩ | ⟨g2, cap2, cur, e3, hg2, hh, hc2, hm2, hs2, ht2⟩
    · omega
    · refine ⟨g2, 0, cap2, cur, by rw [e3]; simp, by omega, hh, by omega, by simpa using hc2, fun k z hk => ?_⟩
      have hkl := (List.getElem?_eq_some_iff.1 hk).1
      have e4 : (cur.toList.take ((l.length + 1) * 1))[k]? = some (.int .i64 z) := by rw [ht2, List.getElem?_map, hk]; rfl
      rw [List.getElem?_take, if_pos (by simp at hkl; omega)] at e4
      rw [Nat.zero_add]
      simpa using e4
end Go.Proofs.YtgcloaimolajjaaDoor
