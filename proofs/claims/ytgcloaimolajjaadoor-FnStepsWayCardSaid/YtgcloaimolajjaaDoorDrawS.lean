/- Drawn surveys. -/
import Derived.Test.YtgcloaimolajjaaDoorDrawLeg
import Derived.Test.YtgcloaimolajjaaDoorSurv
import Derived.Test.YtgcloaimolajjaaDoorPlace
import Derived.Test.YtgcloaimolajjaaDoorLawS
import Derived.Test.YtgcloaimolajjaaDoorBfsM
import Derived.Deep.AppendLies
import Derived.Deep.RegionLaw
namespace Go.Proofs.YtgcloaimolajjaaDoor
open Go.RowKit
set_option linter.all false
/-- The cells of legs, one after the other. -/
def lgC (L : List Lg) : List Value := L.flatMap fun q => [.int .i64 q.f, .int .i64 q.t, .int .i64 q.e, .int .i64 q.n, .int .i64 q.u]
theorem lgC_len (L : List Lg) : (lgC L).length = L.length * 5 := by
  induction L with
  | nil => rfl
  | cons q L ih => unfold lgC at ih ⊢; rw [List.flatMap_cons, List.length_append, ih, List.length_cons]; simp; omega
theorem lgC_snoc (L : List Lg) (q : Lg) : lgC (L ++ [q]) = lgC L ++ [.int .i64 q.f, .int .i64 q.t, .int .i64 q.e, .int .i64 q.n, .int .i64 q.u] := by simp [lgC]
theorem lgC_get : ∀ (L : List Lg) (k : Nat) (q : Lg), L[k]? = some q → (lgC L)[k * 5]? = some (.int .i64 q.f) ∧ (lgC L)[k * 5 + 1]? = some (.int .i64 q.t) ∧ (lgC L)[k * 5 + 2]? = some (.int .i64 q.e) ∧ (lgC L)[k * 5 + 3]? = some (.int .i64 q.n) ∧ (lgC L)[k * 5 + 4]? = some (.int .i64 q.u)
  | [], k, q, h => by simp at h
  | p :: L, 0, q, h => by
    simp at h; subst h
    simp [lgC]
  | p :: L, k + 1, q, h => by
    have ih := lgC_get L k q (by simpa using h)
    have e : lgC (p :: L) = [.int .i64 p.f, .int .i64 p.t, .int .i64 p.e, .int .i64 p.n, .int .i64 p.u] ++ lgC L := by simp [lgC]
    have hx : ∀ j, (lgC (p :: L))[5 + j]? = (lgC L)[j]? := fun j => by rw [e, List.getElem?_append_right (by simp)]; simp
    have e0 : (k + 1) * 5 = 5 + k * 5 := by omega
    rw [e0, Nat.add_assoc, Nat.add_assoc, Nat.add_assoc, Nat.add_assoc, hx, hx, hx, hx, hx]
    exact ih
theorem lgC_one (L : List Lg) : ∀ u ∈ lgC L, u.oneCell' = true := by
  intro u hu
  unfold lgC at hu
  rw [List.mem_flatMap] at hu
  obtain ⟨q, _, hq⟩ := hu
  simp at hq
  rcases hq with rfl | rfl | rfl | rfl | rfl <;> rfl
theorem legs_own {w : World} {base n : Nat} {v : Value} {L : List Lg} (h : w.ownsRow base 34 5 v n (lgC L)) : ∃ A cap, v = .slice A L.length cap ∧ L.length ≤ cap ∧ LegsAt w A L ∧ ∀ p, A = some p → base ≤ p.block := by
  have hl := h.1
  rw [lgC_len] at hl
  obtain rfl : n = L.length := by omega
  rcases h.2 with ⟨rfl, h0⟩ | ⟨g, cap, cur, rfl, hg, hh, hc, hm, hs, ht⟩
  · exact ⟨none, 0, by rw [h0], by omega, fun hne => absurd (List.eq_nil_of_length_eq_zero h0) hne, fun p hp => by cases hp⟩
  · refine ⟨_, cap, rfl, hc, fun hne => ⟨g, 0, rfl, Has.lt (cs := cur) (T := 34) hh, fun k q hk => ?_⟩, fun p hp => by cases hp; exact hg⟩
    have hkl := (List.getElem?_eq_some_iff.1 hk).1
    obtain ⟨a0, a1, a2, a3, a4⟩ := lgC_get L k q hk
    have hx : ∀ j, j < L.length * 5 → w.cell? ⟨g, j, none⟩ = (lgC L)[j]? := fun j hj => by
      rw [Has.cells (cs := cur) (T := 34) hh j w (New.refl w), ← ht, List.getElem?_take, if_pos hj]; simp
    rw [Nat.zero_add, hx _ (by omega), hx _ (by omega), hx _ (by omega), hx _ (by omega), hx _ (by omega)]
    exact ⟨a0, a1, a2, a3, a4⟩
/-- An append to a row of our own, in a region that draws. -/
theorem step_own {P : Program} {w : World} {ops : Array Oper} {o : Oper} {a : Act} {K : Act → World → Prop} {Q : Exit → Act → World → Prop} {E : Prop} (hgd : o.guard = none) (s x : Operand) (t : TypeId)
    (ho : o.op = .call { callee := .builtin .append, args := #[s, x], argTypes := #[t, t] })
    (base : Nat) (e : TypeId) (i : TypeInfo) (z : Value) (size bytes : Nat) (ht : P.underlying t = some (.slice e)) (hi : P.info? e = some i) (hz : i.zero = some z)
    (hsize : i.size = size) (hby : i.bytes = bytes) (hzs : z.cells.size = size) (hsz : 0 < size)
    (v : Value) (n : Nat) (xs : List Value) (hs : a.eval s = v) (hown : w.ownsRow base e size v n xs)
    (ad : Addr) (m c : Nat) (news : List Value) (hx : a.eval x = .slice (some ad) m c) (hl : news.length = m * size) (hnews : ∀ j u, news[j]? = some u → w.cell? (ad.add j) = some u) (h1 : ∀ u ∈ news, u.oneCell' = true)
    (h63 : n + m ≤ maxLen) (hbytes : (n + m) * bytes ≤ 140737488355328) (hbase : base ≤ w.heap.size)
    (h : ∀ v' w', w'.ownsRow base e size v' (n + m) (xs ++ news) → w.grownBy w' v.ownBlock → (v' = .slice none 0 0 ↔ v = .slice none 0 0 ∧ m = 0) → K (a.put o.dst v') w') :
    if Region.wanted o (yielded ops a.tmps) = true then Oper.wp P o a w K Q else E := by
  have hw : Region.wanted o (yielded ops a.tmps) = true := by simp [Region.wanted, hgd]
  rw [if_pos hw]
  exact wp_append_own w s x t ho base e i z size bytes ht hi hz hsize hby hzs hsz v n xs hs hown ad m c news hx hl hnews h1 h63 hbytes hbase h
theorem five_news (w : World) (a b c d e : Value) (t : TypeId) : ∀ j u, [a, b, c, d, e][j]? = some u → (w.alloc (.cells #[a, b, c, d, e] t)).cell? ((⟨w.heap.size, 0, none⟩ : Addr).add j) = some u := by
  intro j u hj
  match j, hj with
  | 0, hj => simp at hj; subst hj; simp [Addr.add]
  | 1, hj => simp at hj; subst hj; simp [Addr.add]
  | 2, hj => simp at hj; subst hj; simp [Addr.add]
  | 3, hj => simp at hj; subst hj; simp [Addr.add]
  | 4, hj => simp at hj; subst hj; simp [Addr.add]
  | j + 5, hj => simp at hj
theorem Only.grown {rb : Nat} {a b c : World} {row : Option Nat} (h : Only rb a b) (hg : b.grownBy c row) (hr : ∀ k, row = some k → a.heap.size ≤ k) : Only rb a c :=
  ⟨hg.os.trans h.os, hg.tape.trans h.tape, hg.output.trans h.output, Nat.le_trans h.size hg.size, fun i hi hne => (hg.block i (Nat.lt_of_lt_of_le hi h.size) (fun e => by have := hr i e.symm; omega)).trans (h.block i hi hne)⟩
theorem own_only {w w' : World} {base g : Nat} {e : TypeId} {size n : Nat} {v : Value} {xs : List Value} (h : w.ownsRow base e size v n xs) (ho : Only g w w') (hg : g < base) : w'.ownsRow base e size v n xs := by
  refine ⟨h.1, ?_⟩
  rcases h.2 with h0 | ⟨g', cap, cur, h1, h2, h3, h4⟩
  · exact .inl h0
  · exact .inr ⟨g', cap, cur, h1, h2, Has.only (cs := cur) (T := e) h3 ho (by omega), h4⟩
theorem Has.grown {w w' : World} {b : Nat} {cs : Array Value} {T : TypeId} {row : Option Nat} (h : Has w b cs T) (hg : w.grownBy w' row) (hne : row ≠ some b) : Has w' b cs T := (hg.block b h.lt (by exact fun e => hne e.symm)).trans h
/-- The reader, the result's cell, the survey that is made with its row of legs. -/
def SvSt (w0 w : World) (rb b g : Nat) (st : Int) (v : Value) (L : List Lg) : Prop :=
  Only rb w0 w ∧ Rd w rb b ∧ Has w w0.heap.size #[.int .i64 0, .slice none 0 0] 25 ∧ Has w g #[.int .i64 st, v] 25 ∧ w.ownsRow (g + 1) 34 5 v L.length (lgC L)
theorem SvSt.only {w0 w w' : World} {rb b b' g : Nat} {st : Int} {v : Value} {L : List Lg} (h : SvSt w0 w rb b g st v L) (ho : Only rb w w') (hr : Rd w' rb b') (h1 : rb < w0.heap.size) (h2 : w0.heap.size < g) : SvSt w0 w' rb b' g st v L :=
  ⟨h.1.trans ho, hr, h.2.2.1.only ho (by omega), h.2.2.2.1.only ho (by omega), own_only h.2.2.2.2 ho (by omega)⟩
theorem SvSt.new {w0 w w' : World} {rb b g : Nat} {st : Int} {v : Value} {L : List Lg} (h : SvSt w0 w rb b g st v L) (hn : New w w') : SvSt w0 w' rb b g st v L :=
  ⟨h.1.trans (Only.of_new hn), h.2.1.keep hn, h.2.2.1.keep hn, h.2.2.2.1.keep hn, own_new h.2.2.2.2 hn⟩
theorem SvSt.le {w0 w : World} {rb b b' g : Nat} {st : Int} {v : Value} {L : List Lg} (h : SvSt w0 w rb b g st v L) (hb : b ≤ b') : SvSt w0 w rb b' g st v L := ⟨h.1, h.2.1.le hb, h.2.2⟩
/-- An append to the legs, and the store of what it gives. -/
theorem SvSt.push {w0 w w' : World} {rb b g : Nat} {st : Int} {v v' : Value} {L : List Lg} {q : Lg} (h : SvSt w0 w rb b g st v L) (h1 : rb < w0.heap.size) (h2 : w0.heap.size < g)
    (hown : w'.ownsRow (g + 1) 34 5 v' (L.length + 1) (lgC L ++ [.int .i64 q.f, .int .i64 q.t, .int .i64 q.e, .int .i64 q.n, .int .i64 q.u])) (hg : w.grownBy w' v.ownBlock) : SvSt w0 (w'.setCell ⟨g, 1, none⟩ v') rb b g st v' (L ++ [q]) ∧ Has w' g #[.int .i64 st, v] 25 ∧ ∃ A cap, v' = .slice A (L.length + 1) cap := by
  obtain ⟨o, r, a, c, ow⟩ := h
  have hb : ∀ k, v.ownBlock = some k → g + 1 ≤ k := fun k hk => (ow.lt k hk).1
  have o' : Only rb w0 w' := o.grown hg (fun k hk => by have := hb k hk; omega)
  have r' : Rd w' rb b := by
    rcases hv : v.ownBlock with _ | k
    · exact r.keep (New.grown (New.refl w) hg (fun k hk => by rw [hv] at hk; cases hk))
    · rw [hv] at hg
      exact r.only (show Only k w w' from hg) (by have := hb k hv; omega)
  have a' := a.grown hg (fun e => by have := hb _ e; omega)
  have c' := c.grown hg (fun e => by have := hb _ e; omega)
  refine ⟨?_, c', ?_⟩
  rotate_left
  · rw [← lgC_snoc] at hown
    obtain ⟨A, cap, h, -, -⟩ := legs_own hown
    exact ⟨A, cap, by rw [h, List.length_append, List.length_singleton]⟩
  refine ⟨o'.setNew (p := ⟨g, 1, none⟩) (by simp; omega) _, r'.far (p := ⟨g, 1, none⟩) (by simp; omega) _, a'.far (p := ⟨g, 1, none⟩) (by simp; omega) _, by simpa using c'.set 1 v', ?_⟩
  rw [lgC_snoc, List.length_append, List.length_singleton]
  exact own_only hown ((Only.refl g w').setCell (p := ⟨g, 1, none⟩) rfl v') (by omega)
theorem SvSt.st {w0 w : World} {rb b g : Nat} {st : Int} {v : Value} {L : List Lg} (h : SvSt w0 w rb b g st v L) (h1 : rb < w0.heap.size) (h2 : w0.heap.size < g) (x : Int) : SvSt w0 (w.setCell ⟨g, 0, none⟩ (.int .i64 x)) rb b g x v L := by
  obtain ⟨o, r, a, c, ow⟩ := h
  exact ⟨o.setNew (p := ⟨g, 0, none⟩) (by simp; omega) _, r.far (p := ⟨g, 0, none⟩) (by simp; omega) _, a.far (p := ⟨g, 0, none⟩) (by simp; omega) _, by simpa using c.set 0 (.int .i64 x), own_only ow ((Only.refl g w).setCell (p := ⟨g, 0, none⟩) rfl _) (by omega)⟩
theorem legs_zero (w : World) : LegBlk (w.alloc (.cells (madeCells #[.int .i64 0, .int .i64 0, .int .i64 0, .int .i64 0, .int .i64 0] 50) 34)) w.heap.size (List.replicate 10 ⟨0, 0, 0, 0, 0⟩) := by
  have hx : ∀ i, i < 50 → (madeCells #[.int .i64 0, .int .i64 0, .int .i64 0, .int .i64 0, .int .i64 0] 50)[i]? = some (.int .i64 0) := fun i hi => by
    rw [madeCells_get _ _ _ hi]
    have : i % 5 = 0 ∨ i % 5 = 1 ∨ i % 5 = 2 ∨ i % 5 = 3 ∨ i % 5 = 4 := by omega
    rcases this with h | h | h | h | h <;> simp [h]
  refine ⟨_, Has.new _ _ _, by rw [size_madeCells]; simp, fun k q hk => ?_⟩
  have hkl := (List.getElem?_eq_some_iff.1 hk).1
  rw [List.length_replicate] at hkl
  rw [List.getElem?_replicate, if_pos hkl] at hk
  simp only [Option.some.injEq] at hk
  subst hk
  exact ⟨hx _ (by omega), hx _ (by omega), hx _ (by omega), hx _ (by omega), hx _ (by omega)⟩
theorem LegsAt.far {w : World} {A : Option Addr} {L : List Lg} (h : LegsAt w A L) {x : Addr} (hA : ∀ p, A = some p → p.block ≠ x.block) (v : Value) : LegsAt (w.setCell x v) A L := fun hne => by
  obtain ⟨b, off, rfl, hb, hc⟩ := h hne
  refine ⟨b, off, rfl, by simpa using hb, fun k g hk => ?_⟩
  have hk := hc k g hk
  have hne := hA _ rfl
  have kp : ∀ o, (w.setCell x v).cell? ⟨b, o, none⟩ = w.cell? ⟨b, o, none⟩ := fun o => by
    unfold World.cell?
    rw [Below.heap_setCell w x v b hne]
  rw [kp, kp, kp, kp, kp]
  exact hk
/-- What stands when the survey is made. -/
def EndSt (w0 wx : World) (rb b g : Nat) : Prop := ∃ (st' : Int) (A' : Option Addr) (L' : List Lg) (cap' : Nat), (L'.length ≤ cap' ∧ 0 ≤ st' ∧ st' ≤ 7 ∧ L'.length ≤ 10 ∧ (∀ p, A' = some p → w0.heap.size < p.block) ∧ Hid (∀ q ∈ L', smallB q.f ∧ smallB q.t ∧ smallB q.e ∧ smallB q.n ∧ smallB q.u)) ∧ LegsAt wx A' L' ∧ Only rb w0 wx ∧ Rd wx rb b ∧ Has wx w0.heap.size #[.int .i64 0, .slice none 0 0] 25 ∧ Has wx g #[.int .i64 st', .slice A' L'.length cap'] 25
theorem SvSt.fin {w0 w : World} {rb b c g : Nat} {st : Int} {v : Value} {L : List Lg} (h : SvSt w0 w rb b g st v L) (hg : w0.heap.size < g) (hst : 0 ≤ st ∧ st ≤ 7) (hL : L.length ≤ 10) (hb : b ≤ c) (hs : Hid (∀ q ∈ L, smallB q.f ∧ smallB q.t ∧ smallB q.e ∧ smallB q.n ∧ smallB q.u)) : EndSt w0 w rb c g := by
  obtain ⟨A', cap', hE, hc, hLg, hA⟩ := legs_own h.2.2.2.2
  have h4 := h.2.2.2.1
  rw [hE] at h4
  exact ⟨_, _, _, _, ⟨hc, hst.1, hst.2, hL, fun p hp => by have := hA p hp; omega, hs⟩, hLg, h.1, h.2.1.le hb, h.2.2.1, h4⟩
theorem SvSt.zeros {w0 w : World} {rb b c g : Nat} {st : Int} {v : Value} {L : List Lg} (h : SvSt w0 w rb b g st v L) (h1 : rb < w0.heap.size) (hg : w0.heap.size < g) (hst : 0 ≤ st ∧ st ≤ 7) (hb : b ≤ c) :
    EndSt w0 ((w.alloc (.cells (madeCells #[.int .i64 0, .int .i64 0, .int .i64 0, .int .i64 0, .int .i64 0] 50) 34)).setCell ⟨g, 1, none⟩ (.slice (some ⟨w.heap.size, 0, none⟩) 10 10)) rb c g := by
  have hz := h.2.2.2.1.lt
  have hl := (legs_zero w).far (p := ⟨g, 1, none⟩) (by simp; omega) (.slice (some ⟨w.heap.size, 0, none⟩) 10 10)
  obtain ⟨o, r, a, d, -⟩ := h.new ((New.refl w).alloc (.cells (madeCells #[.int .i64 0, .int .i64 0, .int .i64 0, .int .i64 0, .int .i64 0] 50) 34))
  refine ⟨st, some ⟨w.heap.size, 0, none⟩, List.replicate 10 ⟨0, 0, 0, 0, 0⟩, 10, ⟨by simp, hst.1, hst.2, by simp, fun p hp => by cases hp; simp; omega, fun q hq => ?_⟩, hl.reads, o.setNew (p := ⟨g, 1, none⟩) (by simp; omega) _, (r.far (p := ⟨g, 1, none⟩) (by simp; omega) _).le hb, a.far (p := ⟨g, 1, none⟩) (by simp; omega) _, by simpa using d.set 1 (.slice (some ⟨w.heap.size, 0, none⟩) 10 10)⟩
  rw [List.mem_replicate] at hq
  rw [hq.2]
  unfold smallB
  simp
def smL (q : Lg) : Prop := smallB q.f ∧ smallB q.t ∧ smallB q.e ∧ smallB q.n ∧ smallB q.u
theorem SvSt.far {w0 w : World} {rb b g : Nat} {st : Int} {v : Value} {L : List Lg} (h : SvSt w0 w rb b g st v L) (h1 : rb < w0.heap.size) (h2 : w0.heap.size < g) {p : Addr} (hp : g < p.block) (hv : ∀ k, v.ownBlock = some k → k ≠ p.block) (u : Value) : SvSt w0 (w.setCell p u) rb b g st v L := by
  obtain ⟨o, r, a, c, ow⟩ := h
  refine ⟨o.setNew (by omega) _, r.far (by omega) _, a.far (by omega) _, c.far (by omega) _, ow.1, ?_⟩
  rcases ow.2 with h0 | ⟨g', cap, cur, e1, e2, e3, e4⟩
  · exact .inl h0
  · have := hv g' (by rw [e1]; rfl)
    exact .inr ⟨g', cap, cur, e1, e2, Has.far (cs := cur) (T := 34) e3 this u, e4⟩
/-- Beside it the leg that is made. -/
def LgSt (w0 w : World) (rb b g : Nat) (st : Int) (v : Value) (L : List Lg) (g8 : Nat) (q : Lg) : Prop :=
  SvSt w0 w rb b g st v L ∧ Has w g8 #[.int .i64 q.f, .int .i64 q.t, .int .i64 q.e, .int .i64 q.n, .int .i64 q.u] 34 ∧ g < g8 ∧ ∀ k, v.ownBlock = some k → k < g8
theorem SvSt.leg {w0 w : World} {rb b g : Nat} {st : Int} {v : Value} {L : List Lg} (h : SvSt w0 w rb b g st v L) (q : Lg) : LgSt w0 (w.alloc (.cells #[.int .i64 q.f, .int .i64 q.t, .int .i64 q.e, .int .i64 q.n, .int .i64 q.u] 34)) rb b g st v L w.heap.size q :=
  ⟨h.new ((New.refl w).alloc _), Has.new _ _ _, h.2.2.2.1.lt, fun k hk => (h.2.2.2.2.lt k hk).2⟩
theorem LgSt.only {w0 w w' : World} {rb b b' g g8 : Nat} {st : Int} {v : Value} {L : List Lg} {q : Lg} (h : LgSt w0 w rb b g st v L g8 q) (ho : Only rb w w') (hr : Rd w' rb b') (h1 : rb < w0.heap.size) (h2 : w0.heap.size < g) : LgSt w0 w' rb b' g st v L g8 q :=
  ⟨h.1.only ho hr h1 h2, h.2.1.only ho (by have := h.2.2.1; omega), h.2.2⟩
theorem LgSt.new {w0 w w' : World} {rb b g g8 : Nat} {st : Int} {v : Value} {L : List Lg} {q : Lg} (h : LgSt w0 w rb b g st v L g8 q) (hn : New w w') : LgSt w0 w' rb b g st v L g8 q := ⟨h.1.new hn, h.2.1.keep hn, h.2.2⟩
theorem LgSt.le {w0 w : World} {rb b b' g g8 : Nat} {st : Int} {v : Value} {L : List Lg} {q : Lg} (h : LgSt w0 w rb b g st v L g8 q) (hb : b ≤ b') : LgSt w0 w rb b' g st v L g8 q := ⟨h.1.le hb, h.2⟩
theorem LgSt.set0 {w0 w : World} {rb b g g8 : Nat} {st : Int} {v : Value} {L : List Lg} {q : Lg} (h : LgSt w0 w rb b g st v L g8 q) (h1 : rb < w0.heap.size) (h2 : w0.heap.size < g) (x : Int) : LgSt w0 (w.setCell ⟨g8, 0, none⟩ (.int .i64 x)) rb b g st v L g8 { q with f := x } :=
  ⟨h.1.far h1 h2 (p := ⟨g8, 0, none⟩) h.2.2.1 (fun k hk => by have := h.2.2.2 k hk; simp; omega) _, by simpa using h.2.1.set 0 (.int .i64 x), h.2.2⟩
theorem LgSt.set1 {w0 w : World} {rb b g g8 : Nat} {st : Int} {v : Value} {L : List Lg} {q : Lg} (h : LgSt w0 w rb b g st v L g8 q) (h1 : rb < w0.heap.size) (h2 : w0.heap.size < g) (x : Int) : LgSt w0 (w.setCell ⟨g8, 1, none⟩ (.int .i64 x)) rb b g st v L g8 { q with t := x } :=
  ⟨h.1.far h1 h2 (p := ⟨g8, 1, none⟩) h.2.2.1 (fun k hk => by have := h.2.2.2 k hk; simp; omega) _, by simpa using h.2.1.set 1 (.int .i64 x), h.2.2⟩
theorem LgSt.set5 {w0 w : World} {rb b g g8 : Nat} {st : Int} {v : Value} {L : List Lg} {q : Lg} (h : LgSt w0 w rb b g st v L g8 q) (h1 : rb < w0.heap.size) (h2 : w0.heap.size < g) (p : Lg) :
    LgSt w0 (((((w.setCell ⟨g8, 0, none⟩ (.int .i64 p.f)).setCell ⟨g8, 1, none⟩ (.int .i64 p.t)).setCell ⟨g8, 2, none⟩ (.int .i64 p.e)).setCell ⟨g8, 3, none⟩ (.int .i64 p.n)).setCell ⟨g8, 4, none⟩ (.int .i64 p.u)) rb b g st v L g8 p := by
  have hk : ∀ i k, v.ownBlock = some k → k ≠ (⟨g8, i, none⟩ : Addr).block := fun i k hk => by have := h.2.2.2 k hk; simp; omega
  have hg := h.2.2.1
  exact ⟨((((h.1.far h1 h2 (p := ⟨g8, 0, none⟩) hg (hk 0) _).far h1 h2 (p := ⟨g8, 1, none⟩) hg (hk 1) _).far h1 h2 (p := ⟨g8, 2, none⟩) hg (hk 2) _).far h1 h2 (p := ⟨g8, 3, none⟩) hg (hk 3) _).far h1 h2 (p := ⟨g8, 4, none⟩) hg (hk 4) _, h.2.1.set5, h.2.2⟩
set_option maxHeartbeats 8000000 in
set_option maxRecDepth 100000 in
theorem l20Survey_any (rb b : Nat) (n : Int) (w : World) (hr : Rd w rb b) (hb : b ≤ 1000000) (hn : n ≤ 1000) :
    Calls Tryd.prog 60 #[.pointer (some ⟨rb, 0, none⟩), .int .i64 n] w fun r w' => ∃ (st : Int) (A : Option Addr) (L : List Lg) (cap : Nat), r = .returned (.agg #[.int .i64 st, .slice A L.length cap]) ∧ (L.length ≤ cap ∧ 0 ≤ st ∧ st ≤ 7 ∧ L.length ≤ 10 ∧ ∀ q ∈ L, smL q) ∧ LegsAt w' A L ∧ Only rb w w' ∧ Rd w' rb (b + 1000) := by
  obtain ⟨i0, hi, hz, hs, hby⟩ := info_parts infoLeg
  have hlt := hr.lt
  have h1 := Has.new w #[.int .i64 0, .slice none 0 0] 25
  have ho := Only.alloc (Only.refl rb w) (Obj.cells #[.int .i64 0, .slice none 0 0] 25)
  have hr1 := hr.keep ((New.refl w).alloc (Obj.cells #[.int .i64 0, .slice none 0 0] 25))
  clear hr
  go_enter Tryd.func60, Tryd.ntmps60
  go_upto_region 1 with fail
  generalize (w.alloc (Obj.cells #[.int .i64 0, .slice none 0 0] 25)) = W0 at *
  go_wp2_with fail
  refine (pick_any rb _ _ _ hr1 (by omega) (by omega)).mono ?_
  rintro _ w1 ⟨p, rfl, p0, p1, o1, r1⟩
  have p2 := p1 (by omega)
  have hA1 := h1.only o1 (by omega)
  have hO1 := ho.trans o1
  have hl1 := hA1.lt
  clear p1 o1 h1 ho hr1
  go_upto_region 2 with fail
  have hS : SvSt w (w1.alloc (.cells #[.int .i64 (2 + p), .slice none 0 0] 25)) rb (b + 1) w1.heap.size (2 + p) (.slice none 0 0) [] :=
    ⟨hO1.alloc _, r1.keep ((New.refl _).alloc _), hA1.alloc _, Has.new _ _ _, rfl, .inl ⟨rfl, rfl⟩⟩
  generalize (w1.alloc (.cells #[.int .i64 (2 + p), .slice none 0 0] 25)) = W1 at *
  obtain ⟨g, hg⟩ : ∃ g, w1.heap.size = g := ⟨_, rfl⟩
  rw [hg] at hl1 hS ⊢
  clear hA1 hO1 r1 hg
  obtain ⟨st, hst⟩ : ∃ st, 2 + p = st := ⟨_, rfl⟩
  rw [hst] at hS
  have hst0 : 2 ≤ st ∧ st ≤ 6 := by omega
  clear hst p0 p2
  go_wp2_with fail
  refine (pick_any rb _ _ _ hS.2.1 (by omega) (by omega)).mono ?_
  rintro _ w2 ⟨l, rfl, l0, l1, o2, r2⟩
  have hS2 := hS.only o2 r2 hlt hl1
  obtain ⟨lo, hlo⟩ : ∃ lo : Bool, (l == 0) = lo := ⟨_, rfl⟩
  clear hS o2 r2 l0 l1
  go_wp2_with fail
  go_loopw [7, 8] (fun i _ wr => ∃ (k : Nat) (v : Value) (L : List Lg), 1 ≤ k ∧ (k : Int) ≤ st ∧ i = .int .i64 k ∧ L.length + 1 ≤ k ∧ Hid (∀ q ∈ L, smL q) ∧ SvSt w wr rb (b + 2 + 40 * k) g st v L) (fun i _ _ => 7 - (intOf i).toNat)
  case atStart => exact ⟨1, _, _, Nat.le_refl _, by omega, rfl, Nat.le_refl _, fun q h => by simp at h, hS2.le (by omega)⟩
  case round =>
    obtain ⟨k, v, L, hk1, hk2, rfl, hLk, HSM, hS⟩ := hrel
    clear hS2
    have c5 := hS.2.2.2.1.at2
    by_cases hlt2 : (k : Int) < st
    · go_upto_region 6 with fail
      go_cut [36] (fun s36 wx => ∃ c : Bool, s36 = .bool c ∧ SvSt w wx rb (b + 2 + 40 * k + 1) g st v L)
      case first =>
        clear hlo
        cases lo
        · go_wp2_with fail
          go_meet
          exact ⟨_, rfl, hS.le (by omega)⟩
        · go_wp2_with fail
          refine (pick_any rb _ _ _ hS.2.1 (by omega) (by omega)).mono ?_
          rintro _ w3 ⟨x, rfl, x0, x1, o3, r3⟩
          have hS3 := hS.only o3 r3 hlt hl1
          obtain ⟨c, hc⟩ : ∃ c : Bool, decide (0 < x) = c := ⟨_, rfl⟩
          go_wp2_with fail
          go_meet
          exact ⟨_, rfl, hS3⟩
      case rest =>
        obtain ⟨c, rfl, hS6⟩ := hcut
        clear hS c5
        have c6 := hS6.2.2.2.1.at2
        cases c
        · go_wp2_with fail
          go_roundw
          case rel => exact ⟨k + 1, v, L, by omega, by omega, by go_num, by omega, HSM, hS6.le (by omega)⟩
          case measure => simp [intOf]; omega
        · go_wp2_with fail
          refine (l20Leg_any _ _ _ _ _ hS6.2.1 (by omega) (by omega) (by omega)).mono ?_
          rintro _ w7 ⟨F, T, E, N, U, rfl, hsm, o7, r7⟩
          have hS7 := hS6.only o7 r7 hlt hl1
          clear hS6 c6 o7 r7
          go_upto_region 8 with fail
          have hL8 := hS7.leg ⟨F, T, E, N, U⟩
          simp only at hL8
          generalize (w7.alloc (.cells #[.int .i64 F, .int .i64 T, .int .i64 E, .int .i64 N, .int .i64 U] 34)) = W8 at *
          obtain ⟨g8, hg8⟩ : ∃ g8, w7.heap.size = g8 := ⟨_, rfl⟩
          rw [hg8] at hL8 ⊢
          clear hS7 hg8
          go_wp2_with fail
          refine (pick_any rb _ _ _ hL8.1.2.1 (by omega) (by omega)).mono ?_
          rintro _ w9 ⟨y, rfl, y0, y1, o9, r9⟩
          have y2 := y1 (by omega)
          have hL9 := hL8.only o9 r9 hlt hl1
          have c9 := hL9.2.1.at5
          clear hL8 o9 r9 y1
          go_upto_region 10 with fail
          have hLA := (hL9.set0 hlt hl1 y).set1 hlt hl1 (k : Int)
          simp only at hLA
          generalize ((w9.setCell ⟨g8, 0, none⟩ (.int .i64 y)).setCell ⟨g8, 1, none⟩ (.int .i64 (k : Int))) = WA at *
          clear hL9 c9
          go_wp2_with fail
          refine (pick_any rb _ _ _ hLA.1.2.1 (by omega) (by omega)).mono ?_
          rintro _ wB ⟨z, rfl, z0, -, oB, rB⟩
          have hLB := hLA.only oB rB hlt hl1
          have cB := hLB.2.1.at5
          simp only at cB
          have hsq : smL ⟨y, k, E, N, U⟩ := ⟨show smallB y by unfold smallB; omega, show smallB (k : Int) by unfold smallB; omega, hsm.2.2⟩
          clear hLA oB rB
          go_upto_if 49 with fail
          go_cut [] (fun wx => ∃ q : Lg, smL q ∧ LgSt w wx rb (b + 2 + 40 * k + 30) g st v L g8 q)
          case first =>
            by_cases hz0 : z = 0
            · subst hz0
              go_wp2_with fail
              refine (specLegBack_any _ _ _ _ _ _).mono ?_
              rintro _ wC ⟨rfl, hnC⟩
              have hLC := hLB.new hnC
              have cC := hLC.2.1.at5
              simp only at cC
              clear hLB cB
              go_wp2_with fail
              go_meet
              refine ⟨⟨k, y, ng E, ng N, ng U⟩, ?_, (hLC.set5 hlt hl1 ⟨k, y, ng E, ng N, ng U⟩).le (by omega)⟩
              unfold smL smallB at *
              simp only at *
              unfold ng wrap64
              omega
            · have hz' : (z == 0) = false := by simpa using hz0
              go_wp2_with fail
              go_meet
              exact ⟨_, hsq, hLB.le (by omega)⟩
          case rest =>
            obtain ⟨q, hq, hLD⟩ := hcut
            clear hLB cB hsq
            have cD := hLD.2.1.at5
            have dD := hLD.1.2.2.2.1.at2
            have hown := hLD.1.2.2.2.2
            have hsz := hLD.1.2.2.2.1.lt
            have hnA := (New.refl wc).alloc (.cells #[.int .i64 q.f, .int .i64 q.t, .int .i64 q.e, .int .i64 q.n, .int .i64 q.u] 34)
            go_wp2_with (at_builtin; refine wpList_append_own _ rfl _ _ 23 rfl (g + 1) 34 i0 (.agg #[.int .i64 0, .int .i64 0, .int .i64 0, .int .i64 0, .int .i64 0]) 5 40 Tryd.underlying23 hi hz hs hby rfl (by decide) _ _ _ rfl (own_new hown hnA) ⟨wc.heap.size, 0, none⟩ 1 1 [.int .i64 q.f, .int .i64 q.t, .int .i64 q.e, .int .i64 q.n, .int .i64 q.u] rfl rfl (five_news _ _ _ _ _ _ _) (by intro u hu; simp at hu; rcases hu with rfl | rfl | rfl | rfl | rfl <;> rfl) (by unfold maxLen; omega) (by omega) (by simp; omega) ?_; intro v' wE hown' hgrow _; obtain ⟨hP, hQ, A', cp', rfl⟩ := (hLD.1.new hnA).push hlt hl1 hown' hgrow; have dE := hQ.at2; clear hown' hgrow hQ)
            go_roundw
            case rel => exact ⟨k + 1, _, L ++ [q], by omega, by omega, by go_num, by rw [List.length_append, List.length_singleton]; omega, fun q' hq' => by
              rcases List.mem_append.1 hq' with h | h
              · exact HSM.out q' h
              · rw [List.mem_singleton.1 h]; exact hq, hP.le (by omega)⟩
            case measure => simp [intOf]; omega
    · obtain hke : (k : Int) = st := by omega
      have hL6 : L.length ≤ 9 := by omega
      have hS' := hS.le (show b + 2 + 40 * k ≤ b + 300 by omega)
      clear hS hlo
      go_wp2_with fail
      clear c5
      refine (pick_any rb _ _ _ hS'.2.1 (by omega) (by omega)).mono ?_
      rintro _ w3 ⟨x, rfl, x0, x1, o3, r3⟩
      have hS3 := hS'.only o3 r3 hlt hl1
      obtain ⟨cl, hcl⟩ : ∃ c : Bool, (x == 0) = c := ⟨_, rfl⟩
      clear hS' o3 r3 x0 x1
      go_wp2_with fail
      refine (pick_any rb _ _ _ hS3.2.1 (by omega) (by omega)).mono ?_
      rintro _ w4 ⟨y, rfl, y0, y1, o4, r4⟩
      have y2 := y1 (by omega)
      have hS4 := hS3.only o4 r4 hlt hl1
      obtain ⟨y', rfl⟩ : ∃ y' : Nat, y = (y' : Int) := ⟨y.toNat, by omega⟩
      clear hS3 o4 r4 y0 y1 hcl
      go_wp2_with fail
      clear hlt2 hk1 hk2 hke hLk
      go_loopw [10, 11, 12, 13, 14, 15, 16] (fun i _ _ _ _ _ _ wr => ∃ (j : Nat) (v : Value) (L : List Lg), j ≤ 4 ∧ i = .int .i64 j ∧ L.length ≤ 9 ∧ Hid (∀ q ∈ L, smL q) ∧ SvSt w wr rb (b + 302 + 40 * (4 - j)) g st v L) (fun i _ _ _ _ _ _ _ => (intOf i).toNat)
      case atStart => exact ⟨y', v, L, by omega, rfl, hL6, HSM, hS4.le (by omega)⟩
      case round =>
        clear hS4 y2 hL6 HSM
        obtain ⟨j, v, L, hj4, rfl, hL9, HSM, hS⟩ := hrel
        obtain ⟨A, cap, rfl, hcap, hLA, -⟩ := legs_own hS.2.2.2.2
        have c5 := hS.2.2.2.1.at2
        by_cases hgo : 0 < j ∧ L.length < 9
        · obtain ⟨hj0, hL8⟩ := hgo
          have hj' : (0 : Int) < (j : Int) := by omega
          have hL' : (L.length : Int) < 9 := by omega
          go_wp2_with fail
          refine (l20Leg_any _ _ _ _ _ hS.2.1 (by omega) (by omega) (by omega)).mono ?_
          rintro _ w5 ⟨F, T, E, N, U, rfl, hsm, o5, r5⟩
          have hS5 := hS.only o5 r5 hlt hl1
          clear hS c5 o5 r5 hLA
          go_upto_region 18 with fail
          have hK := hS5.leg ⟨F, T, E, N, U⟩
          simp only at hK
          generalize (w5.alloc (.cells #[.int .i64 F, .int .i64 T, .int .i64 E, .int .i64 N, .int .i64 U] 34)) = W8 at *
          obtain ⟨g8, hg8⟩ : ∃ g8, w5.heap.size = g8 := ⟨_, rfl⟩
          rw [hg8] at hK ⊢
          clear hS5 hg8
          obtain ⟨A', cap', hE, -, hLg, -⟩ := legs_own hK.1.2.2.2.2
          cases hE
          have c8 := hK.2.1.cells5
          have d8 := hK.1.2.2.2.1.cells2
          simp only at c8
          go_wp2_with fail
          refine (specTreePlace_any _ _ _ _ _ _ hLg (by omega)).mono ?_
          obtain ⟨x1, hx1⟩ : ∃ x, tpF st L F (stE L) = x := ⟨_, rfl⟩
          obtain ⟨x2, hx2⟩ : ∃ x, tpF st L F (stN L) = x := ⟨_, rfl⟩
          obtain ⟨x3, hx3⟩ : ∃ x, tpF st L F (stU L) = x := ⟨_, rfl⟩
          obtain ⟨pb, hpb⟩ : ∃ x, tpB st L F = x := ⟨_, rfl⟩
          rw [hx1, hx2, hx3, hpb]
          clear hx1 hx2 hx3 hpb
          rintro _ w9 ⟨rfl, hn9⟩
          go_upto_region 19 with fail
          have h12 := Has.new w9 #[.int .i64 x1, .int .i64 x2, .int .i64 x3] 53
          have hk9 : New W8 (w9.alloc (.cells #[.int .i64 x1, .int .i64 x2, .int .i64 x3] 53)) := hn9.alloc _
          generalize (w9.alloc (.cells #[.int .i64 x1, .int .i64 x2, .int .i64 x3] 53)) = W9 at *
          have c9 := fun w' (hn : New W9 w') => c8 w' (hk9.trans hn)
          have d9 := fun w' (hn : New W9 w') => d8 w' (hk9.trans hn)
          clear c8 d8 hn9
          go_wp2_with fail
          refine (specTreePlace_any _ _ _ _ _ _ (hLg.keep hk9) (by omega)).mono ?_
          obtain ⟨y1, hy1⟩ : ∃ x, tpF st L T (stE L) = x := ⟨_, rfl⟩
          obtain ⟨y2, hy2⟩ : ∃ x, tpF st L T (stN L) = x := ⟨_, rfl⟩
          obtain ⟨y3, hy3⟩ : ∃ x, tpF st L T (stU L) = x := ⟨_, rfl⟩
          obtain ⟨qb, hqb⟩ : ∃ x, tpB st L T = x := ⟨_, rfl⟩
          rw [hy1, hy2, hy3, hqb]
          clear hy1 hy2 hy3 hqb
          rintro _ w10 ⟨rfl, hn10⟩
          go_upto_region 20 with fail
          have h14 := Has.new w10 #[.int .i64 y1, .int .i64 y2, .int .i64 y3] 53
          have hk10 : New W9 (w10.alloc (.cells #[.int .i64 y1, .int .i64 y2, .int .i64 y3] 53)) := hn10.alloc _
          generalize (w10.alloc (.cells #[.int .i64 y1, .int .i64 y2, .int .i64 y3] 53)) = W10 at *
          have hK10 := hK.new (hk9.trans hk10)
          have c12 := (h12.keep hk10).cells3
          have c14 := h14.cells3
          clear c9 d9 h12 h14 hn10 hk9 hk10 hK hLg
          go_cut [16] (fun s16 wx => ∃ (g16 : Nat) (a b c : Int), s16 = .pointer (some ⟨g16, 0, none⟩) ∧ Has wx g16 #[.int .i64 a, .int .i64 b, .int .i64 c] 53 ∧ New W10 wx)
          case first =>
            go_region_with (first | (go_at_call 81; refine (specWayTimes_any _ _ _ _ _).mono ?_; rintro e w1 ⟨rfl, hn⟩; have hk : New W10 w1 := New.tail hn (by repeat (first | with_reducible exact New.refl _ | with_reducible assumption | with_reducible refine New.alloc ?_ _ | with_reducible refine New.drewN ?_ _ | with_reducible refine New.drew ?_ | with_reducible refine New.setCell ?_ (by first | omega | (simp; done) | (simp; omega)) _ | with_reducible refine New.tail (by assumption) ?_)); (first | (have hh := Has.keep (Has.new _ _ _) hn; (first | have hq := Has.at5 hh | have hq := Has.at3 hh | have hq := Has.at2 hh | have hq := Has.at1 hh)) | (have hh := Has.keep (Has.new _ _ _).drew hn; (first | have hq := Has.at5 hh | have hq := Has.at3 hh | have hq := Has.at2 hh | have hq := Has.at1 hh)) | (have hh := Has.keep (by assumption) hn; (first | have hq := Has.at5 hh | have hq := Has.at3 hh | have hq := Has.at2 hh | have hq := Has.at1 hh)) | skip); have hz := hn.size; (try simp only [World.size_alloc, World.size_drew, World.size_setCell] at hz)) | (go_at_call 79; refine (specWayAdd_any _ _ _ _ _ _ _).mono ?_; rintro e w1 ⟨rfl, hn⟩; have hk : New W10 w1 := New.tail hn (by repeat (first | with_reducible exact New.refl _ | with_reducible assumption | with_reducible refine New.alloc ?_ _ | with_reducible refine New.drewN ?_ _ | with_reducible refine New.drew ?_ | with_reducible refine New.setCell ?_ (by first | omega | (simp; done) | (simp; omega)) _ | with_reducible refine New.tail (by assumption) ?_)); (first | (have hh := Has.keep (Has.new _ _ _) hn; (first | have hq := Has.at5 hh | have hq := Has.at3 hh | have hq := Has.at2 hh | have hq := Has.at1 hh)) | (have hh := Has.keep (Has.new _ _ _).drew hn; (first | have hq := Has.at5 hh | have hq := Has.at3 hh | have hq := Has.at2 hh | have hq := Has.at1 hh)) | (have hh := Has.keep (by assumption) hn; (first | have hq := Has.at5 hh | have hq := Has.at3 hh | have hq := Has.at2 hh | have hq := Has.at1 hh)) | skip); have hz := hn.size; (try simp only [World.size_alloc, World.size_drew, World.size_setCell] at hz)))
            all_goals
              go_wp2_with fail
              go_meet
              exact ⟨_, _, _, _, rfl, (by repeat (first | with_reducible exact Has.new _ _ _ | with_reducible assumption | with_reducible refine Has.drew ?_ | with_reducible refine Has.drewN ?_ _ | with_reducible apply Has.set1 | with_reducible apply Has.set2 | with_reducible apply Has.set3 | with_reducible apply Has.set5 | with_reducible refine Has.keep ?_ (by assumption))), (by repeat (first | with_reducible exact New.refl _ | with_reducible assumption | with_reducible refine New.alloc ?_ _ | with_reducible refine New.drewN ?_ _ | with_reducible refine New.drew ?_ | with_reducible refine New.setCell ?_ (by first | omega | (simp; done) | (simp; omega)) _ | with_reducible refine New.tail (by assumption) ?_))⟩
          case rest =>
            obtain ⟨g16, a, b', c, rfl, h16, hn16⟩ := hcut
            have hK16 := hK10.new hn16
            clear hK10 hn16 c12 c14
            have c16 := h16.cells3
            have c8 := hK16.2.1.cells5
            simp only at c8
            clear h16
            obtain ⟨W11, hW11⟩ : ∃ W, W = wc := ⟨_, rfl⟩
            subst hW11
            go_upto_region 21 with fail
            go_cut [111] (fun s111 wx => ∃ t : Bool, s111 = .bool t ∧ wx = W11)
            case first =>
              cases cl
              · go_wp2_with fail
                go_meet
                exact ⟨_, rfl, rfl⟩
              cases pb
              · go_wp2_with fail
                go_meet
                exact ⟨_, rfl, rfl⟩
              cases qb
              · go_wp2_with fail
                go_meet
                exact ⟨_, rfl, rfl⟩
              obtain ⟨t1, ht1⟩ : ∃ t, inB a (-99) 99 = t := ⟨_, rfl⟩
              obtain ⟨t2, ht2⟩ : ∃ t, inB b' (-99) 99 = t := ⟨_, rfl⟩
              go_wp2_with fail
              refine (l1In_any _ _ _ _).mono ?_
              rw [ht1]
              rintro _ w12 ⟨rfl, rfl⟩
              clear ht1
              cases t1
              · go_wp2_with fail
                go_meet
                exact ⟨_, rfl, rfl⟩
              · go_wp2_with fail
                refine (l1In_any _ _ _ _).mono ?_
                rw [ht2]
                rintro _ w13 ⟨rfl, rfl⟩
                clear ht2
                go_wp2_with fail
                go_meet
                exact ⟨_, rfl, rfl⟩
            case rest =>
              obtain ⟨t, rfl, rfl⟩ := hcut
              go_upto_if 111 with fail
              go_cut [] (fun wx => ∃ q : Lg, LgSt w wx rb (b + 302 + 40 * (4 - j) + 30) g st (.slice A L.length cap) L g8 q)
              case first =>
                have f8 := hK16.2.1.at5
                simp only at f8
                cases t
                · go_wp2_with fail
                  go_meet
                  exact ⟨_, hK16.le (by omega)⟩
                · go_wp2_with fail
                  go_meet
                  exact ⟨⟨F, T, a, b', c⟩, (hK16.set5 hlt hl1 ⟨F, T, a, b', c⟩).le (by omega)⟩
              case rest =>
                obtain ⟨q, hKq⟩ := hcut
                clear hK16 c8 c16
                have cD := hKq.2.1.cells5
                have dD := hKq.1.2.2.2.1.cells2
                go_wp2_with fail
                refine (specLegValid_any _ _ _ _ _ _ _).mono ?_
                obtain ⟨ok, hok⟩ : ∃ t, legB st q.f q.t q.e q.n q.u = t := ⟨_, rfl⟩
                rw [hok]
                rintro _ w14 ⟨rfl, hn14⟩
                have hKr := hKq.new hn14
                have HOK := Lib.hid hok
                clear hKq cD dD hok hn14
                cases ok
                · go_wp2_with fail
                  go_roundw
                  case rel => exact ⟨j - 1, _, L, by omega, by rw [show ((j - 1 : Nat) : Int) = (j : Int) - 1 by omega], hL9, HSM, hKr.1.le (by omega)⟩
                  case measure => simp [intOf]; omega
                · have hq : smL q := by
                    have h := legB_t.1 HOK.out
                    unfold smL smallB
                    omega
                  have cE := hKr.2.1.at5
                  have dE := hKr.1.2.2.2.1.at2
                  have hown := hKr.1.2.2.2.2
                  have hsz := hKr.1.2.2.2.1.lt
                  have hnA := (New.refl w14).alloc (.cells #[.int .i64 q.f, .int .i64 q.t, .int .i64 q.e, .int .i64 q.n, .int .i64 q.u] 34)
                  go_wp2_with (at_builtin; refine wpList_append_own _ rfl _ _ 23 rfl (g + 1) 34 i0 (.agg #[.int .i64 0, .int .i64 0, .int .i64 0, .int .i64 0, .int .i64 0]) 5 40 Tryd.underlying23 hi hz hs hby rfl (by decide) _ _ _ rfl (own_new hown hnA) ⟨w14.heap.size, 0, none⟩ 1 1 [.int .i64 q.f, .int .i64 q.t, .int .i64 q.e, .int .i64 q.n, .int .i64 q.u] rfl rfl (five_news _ _ _ _ _ _ _) (by intro u hu; simp at hu; rcases hu with rfl | rfl | rfl | rfl | rfl <;> rfl) (by unfold maxLen; omega) (by omega) (by simp; omega) ?_; intro v' wE hown' hgrow _; obtain ⟨hP, hQ, A', cp', rfl⟩ := (hKr.1.new hnA).push hlt hl1 hown' hgrow; have dE := hQ.at2; clear hown' hgrow hQ)
                  go_roundw
                  case rel => exact ⟨j - 1, _, L ++ [q], by omega, by rw [show ((j - 1 : Nat) : Int) = (j : Int) - 1 by omega], by rw [List.length_append, List.length_singleton]; omega, fun q' hq' => by
                    rcases List.mem_append.1 hq' with h | h
                    · exact HSM.out q' h
                    · rw [List.mem_singleton.1 h]; exact hq, hP.le (by omega)⟩
                  case measure => simp [intOf]; omega
        · have hex : ¬ 0 < j ∨ (0 < j ∧ ¬ L.length < 9) := by omega
          rcases hex with hex | ⟨hj0, hex⟩
          all_goals
            go_wp2_with fail
            clear c5 hLA
            refine (odd_any rb _ _ _ hS.2.1 (by omega) (by omega)).mono ?_
            rintro _ w5 ⟨t, rfl, o5, r5⟩
            have hS5 := (hS.only o5 r5 hlt hl1).le (show b + 302 + 40 * (4 - j) + 1 ≤ b + 500 by omega)
            clear hS o5 r5
            go_upto_if 135 with fail
            go_cut [] (fun wx => EndSt w wx rb (b + 1000) g)
            case first =>
              cases t
              · go_wp2_with fail
                go_meet
                exact hS5.fin hl1 (by omega) (by omega) (by omega) HSM
              · go_wp2_with fail
                refine (pick_any rb _ _ _ hS5.2.1 (by omega) (by omega)).mono ?_
                rintro _ w6 ⟨z, rfl, z0, z1, o6, r6⟩
                have z2 := z1 (by omega)
                have hS6 := hS5.only o6 r6 hlt hl1
                clear hS5 o6 r6 z1
                have hz6 := hS6.2.2.2.1.lt
                by_cases hz0 : z = 0
                · subst hz0
                  have hnA := (New.refl w6).alloc (.cells #[.int .i64 0, .int .i64 7] 3)
                  have hSA := hS6.new hnA
                  have hA := Has.new w6 #[.int .i64 0, .int .i64 7] 3
                  go_wp2_with fail
                  refine (pick_any rb _ _ _ hSA.2.1 (by omega) (by omega)).mono ?_
                  rintro _ w7 ⟨y, rfl, y0, y1, o7, r7⟩
                  have y2 := y1 (by omega)
                  have hSB := hSA.only o7 r7 hlt hl1
                  have hB := (hA.only o7 (by omega)).at2
                  have cB := hSB.2.2.2.1.at2
                  clear hSA hA o7 r7 y1 hS6
                  have hy : y = 0 ∨ y = 1 := by omega
                  rcases hy with rfl | rfl
                  · go_wp2_with fail
                    go_meet
                    exact (hSB.st hlt hl1 0).fin hl1 (by omega) (by omega) (by omega) HSM
                  · go_wp2_with fail
                    go_meet
                    exact (hSB.st hlt hl1 7).fin hl1 (by omega) (by omega) (by omega) HSM
                by_cases hz1 : z = 1
                · subst hz1
                  have c6 := hS6.2.2.2.1.at2
                  go_upto_region 31 with fail
                  go_region_law (first | (go_simp; go_at_call 87; refine (l20Leg_any rb _ _ _ _ (hS6.2.1.keep (New.refl w6).drew) (by omega) (by omega) (by omega)).mono ?_; rintro _ w7 ⟨F, T, E, N, U, rfl, hsm7, o7, r7⟩; have hS7 := (hS6.new (New.refl w6).drew).only o7 r7 hlt hl1; have c7 := hS7.2.2.2.1.at2; have hown7 := hS7.2.2.2.2; have hsz7 := hS7.2.2.2.1.lt; have hn7 := (New.refl w7).alloc (.cells #[.int .i64 F, .int .i64 T, .int .i64 E, .int .i64 N, .int .i64 U] 34)) | (refine step_own (by rfl) _ _ 23 (by rfl) (g + 1) 34 i0 (.agg #[.int .i64 0, .int .i64 0, .int .i64 0, .int .i64 0, .int .i64 0]) 5 40 Tryd.underlying23 hi hz hs hby rfl (by decide) _ _ _ (by rfl) (own_new hown7 hn7) ⟨w7.heap.size, 0, none⟩ 1 1 [.int .i64 F, .int .i64 T, .int .i64 E, .int .i64 N, .int .i64 U] (by rfl) (by rfl) (five_news _ _ _ _ _ _ _) (by intro u hu; simp at hu; rcases hu with rfl | rfl | rfl | rfl | rfl <;> rfl) (by unfold maxLen; omega) (by omega) (by simp; omega) ?_; intro v' wE hown' hgrow _; obtain ⟨hP, hQ, A', cp', rfl⟩ := (hS7.new hn7).push (q := ⟨F, T, E, N, U⟩) hlt hl1 hown' hgrow; have dE := hQ.at2; clear hown' hgrow hQ))
                  all_goals
                    go_wp2_with fail
                    go_meet
                    refine (hP.le (b' := b + 1000) (by omega)).fin hl1 (by omega) (by rw [List.length_append, List.length_singleton]; omega) (Nat.le_refl _) ?_
                    intro q hq
                    rcases List.mem_append.1 hq with h | h
                    · exact HSM.out q h
                    · rw [List.mem_singleton.1 h]; exact hsm7
                · have hz0' : (z == 0) = false := by simpa using hz0
                  have hz1' : (z == 1) = false := by simpa using hz1
                  have c6 := hS6.2.2.2.1.at2
                  have hmk : ∀ w : World, (Instr.makeSlice 23 (.int .i64 10) (.int .i64 10)).run Tryd.prog w = .ok (.slice (some ⟨w.heap.size, 0, none⟩) 10 10) (w.alloc (.cells (madeCells #[.int .i64 0, .int .i64 0, .int .i64 0, .int .i64 0, .int .i64 0] 50) 34)) := makeLegs 10 (by omega)
                  have hnA := (New.refl w6).alloc (.cells (madeCells #[.int .i64 0, .int .i64 0, .int .i64 0, .int .i64 0, .int .i64 0] 50) 34)
                  have cA := (hS6.new hnA).2.2.2.1.at2
                  go_wp2_with fail
                  go_meet
                  rw [← World.setCell_alloc_past _ _ _ _ (by omega)]; exact hS6.zeros (c := b + 1000) hlt hl1 (by omega) (by omega)
            case rest =>
              obtain ⟨st', A', L', cap', hbd, hLg, hO, hR, hH, hG⟩ := hcut
              have c7 := hG.at2
              have c8 := hH.at2
              go_wp2_with fail
              exact bodyPost_ret (v := .agg #[.int .i64 st', .slice A' L'.length cap']) (by simp [results, Tryd.results60, go_sem, (hH.set2 (y0 := .int .i64 st') (y1 := .slice A' L'.length cap')).at2]) rfl ⟨st', A', L', cap', rfl, ⟨hbd.1, hbd.2.1, hbd.2.2.1, hbd.2.2.2.1, hbd.2.2.2.2.2.out⟩, (hLg.far (x := ⟨w.heap.size, 0, none⟩) (fun p hp => by have := hbd.2.2.2.2.1 p hp; simp; omega) _).far (x := ⟨w.heap.size, 1, none⟩) (fun p hp => by have := hbd.2.2.2.2.1 p hp; simp; omega) _, (hO.setNew (p := ⟨w.heap.size, 0, none⟩) (by simp) _).setNew (p := ⟨w.heap.size, 1, none⟩) (by simp) _, (hR.far (p := ⟨w.heap.size, 0, none⟩) hlt _).far (p := ⟨w.heap.size, 1, none⟩) hlt _⟩
end Go.Proofs.YtgcloaimolajjaaDoor
