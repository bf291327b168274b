/- Rows of legs of our own. -/
import Derived.Test.YtbjahideaonimaaSurv
import Derived.Test.YtbjahideaonimaaInts
import Derived.Test.YtbjahideaonimaaMinor
import Derived.Test.YtbjahideaonimaaLawS
import Derived.Deep.AppendLies
import Derived.Deep.RegionLaw
namespace Go.Proofs.Ytbjahideaonimaa
open Go.RowKit
set_option linter.all false
/-- The cells of legs, one after the other. -/
def lgC (L : List Lg) : List Value := L.flatMap fun q => [.int .i64 q.f, .int .i64 q.t, .int .i64 q.e, .int .i64 q.n, .int .i64 q.u]
theorem lgC_len (L : List Lg) : (lgC L).length = L.length * 5 := by
  induction L with
  | nil => rfl
  | cons q L ih => unfold lgC at ih ⊢; rw [List.flatMap_cons, List.length_append, ih, List.length_cons]; simp; omega
theorem lgC_snoc (L : List Lg) (q : Lg) : lgC (L ++ [q]) = lgC L ++ [.int .i64 q.f, .int .i64 q.t, .int .i64 q.e, .int .i64 q.n, .int .i64 q.u] := by simp [lgC]
theorem lgC_get : ∀ (L : List Lg) (k : Nat) (q : Lg), L[k]? = some q → (lgC L)[k * 5]? = some (.int .i64 q.f) ∧ (lgC L)[k * 5 + 1]? = some (.int .i64 q.t) ∧ (lgC L)[k * 5 + 2]? = some (.int .i64 q.e) ∧ (lgC L)[k * 5 + 3]? = some (.int .i64 q.n) ∧ (lgC L)[k * 5 + 4]? = some (.int .i64 q.u)
  | [], k, q, h => by simp at h
  | p :: L, 0, q, h => by
    simp at h; subst h
    simp [lgC]
  | p :: L, k + 1, q, h => by
    have ih := lgC_get L k q (by simpa using h)
    have e : lgC (p :: L) = [.int .i64 p.f, .int .i64 p.t, .int .i64 p.e, .int .i64 p.n, .int .i64 p.u] ++ lgC L := by simp [lgC]
    have hx : ∀ j, (lgC (p :: L))[5 + j]? = (lgC L)[j]? := fun j => by rw [e, List.getElem?_append_right (by simp)]; simp
    have e0 : (k + 1) * 5 = 5 + k * 5 := by omega
    rw [e0, Nat.add_assoc, Nat.add_assoc, Nat.add_assoc, Nat.add_assoc, hx, hx, hx, hx, hx]
    exact ih
theorem lgC_one (L : List Lg) : ∀ u ∈ lgC L, u.oneCell' = true := by
  intro u hu
  unfold lgC at hu
  rw [List.mem_flatMap] at hu
  obtain ⟨q, _, hq⟩ := hu
  simp at hq
  rcases hq with rfl | rfl | rfl | rfl | rfl <;> rfl
theorem legs_own {w : World} {base n : Nat} {v : Value} {L : List Lg} (h : w.ownsRow base 61 5 v n (lgC L)) : ∃ A cap, v = .slice A L.length cap ∧ L.length ≤ cap ∧ LegsAt w A L ∧ ∀ p, A = some p → base ≤ p.block := by
  have hl := h.1
  rw [lgC_len] at hl
  obtain rfl : n = L.length := by omega
  rcases h.2 with ⟨rfl, h0⟩ | ⟨g, cap, cur, rfl, hg, hh, hc, hm, hs, ht⟩
  · exact ⟨none, 0, by rw [h0], by omega, fun hne => absurd (List.eq_nil_of_length_eq_zero h0) hne, fun p hp => by cases hp⟩
  · refine ⟨_, cap, rfl, hc, fun hne => ⟨g, 0, rfl, Has.lt (cs := cur) (T := 61) hh, fun k q hk => ?_⟩, fun p hp => by cases hp; exact hg⟩
    have hkl := (List.getElem?_eq_some_iff.1 hk).1
    obtain ⟨a0, a1, a2, a3, a4⟩ := lgC_get L k q hk
    have hx : ∀ j, j < L.length * 5 → w.cell? ⟨g, j, none⟩ = (lgC L)[j]? := fun j hj => by
      rw [Has.cells (cs := cur) (T := 61) hh j w (New.refl w), ← ht, List.getElem?_take, if_pos hj]; simp
    rw [Nat.zero_add, hx _ (by omega), hx _ (by omega), hx _ (by omega), hx _ (by omega), hx _ (by omega)]
    exact ⟨a0, a1, a2, a3, a4⟩
/-- An append to a row of our own, in a region that draws. -/
theorem step_own {P : Program} {w : World} {ops : Array Oper} {o : Oper} {a : Act} {K : Act → World → Prop} {Q : Exit → Act → World → Prop} {E : Prop} (hgd : o.guard = none) (s x : Operand) (t : TypeId)
    (ho : o.op = .call { callee := .builtin .append, args := #[s, x], argTypes := #[t, t] })
    (base : Nat) (e : TypeId) (i : TypeInfo) (z : Value) (size bytes : Nat) (ht : P.underlying t = some (.slice e)) (hi : P.info? e = some i) (hz : i.zero = some z)
    (hsize : i.size = size) (hby : i.bytes = bytes) (hzs : z.cells.size = size) (hsz : 0 < size)
    (v : Value) (n : Nat) (xs : List Value) (hs : a.eval s = v) (hown : w.ownsRow base e size v n xs)
    (ad : Addr) (m c : Nat) (news : List Value) (hx : a.eval x = .slice (some ad) m c) (hl : news.length = m * size) (hnews : ∀ j u, news[j]? = some u → w.cell? (ad.add j) = some u) (h1 : ∀ u ∈ news, u.oneCell' = true)
    (h63 : n + m ≤ maxLen) (hbytes : (n + m) * bytes ≤ 140737488355328) (hbase : base ≤ w.heap.size)
    (h : ∀ v' w', w'.ownsRow base e size v' (n + m) (xs ++ news) → w.grownBy w' v.ownBlock → (v' = .slice none 0 0 ↔ v = .slice none 0 0 ∧ m = 0) → K (a.put o.dst v') w') :
    if Region.wanted o (yielded ops a.tmps) = true then Oper.wp P o a w K Q else E := by
  have hw : Region.wanted o (yielded ops a.tmps) = true := by simp [Region.wanted, hgd]
  rw [if_pos hw]
  exact wp_append_own w s x t ho base e i z size bytes ht hi hz hsize hby hzs hsz v n xs hs hown ad m c news hx hl hnews h1 h63 hbytes hbase h
theorem five_news (w : World) (a b c d e : Value) (t : TypeId) : ∀ j u, [a, b, c, d, e][j]? = some u → (w.alloc (.cells #[a, b, c, d, e] t)).cell? ((⟨w.heap.size, 0, none⟩ : Addr).add j) = some u := by
  intro j u hj
  match j, hj with
  | 0, hj => simp at hj; subst hj; simp [Addr.add]
  | 1, hj => simp at hj; subst hj; simp [Addr.add]
  | 2, hj => simp at hj; subst hj; simp [Addr.add]
  | 3, hj => simp at hj; subst hj; simp [Addr.add]
  | 4, hj => simp at hj; subst hj; simp [Addr.add]
  | j + 5, hj => simp at hj
theorem Only.grown {rb : Nat} {a b c : World} {row : Option Nat} (h : Only rb a b) (hg : b.grownBy c row) (hr : ∀ k, row = some k → a.heap.size ≤ k) : Only rb a c :=
  ⟨hg.os.trans h.os, hg.tape.trans h.tape, hg.output.trans h.output, Nat.le_trans h.size hg.size, fun i hi hne => (hg.block i (Nat.lt_of_lt_of_le hi h.size) (fun e => by have := hr i e.symm; omega)).trans (h.block i hi hne)⟩
theorem own_only {w w' : World} {base g : Nat} {e : TypeId} {size n : Nat} {v : Value} {xs : List Value} (h : w.ownsRow base e size v n xs) (ho : Only g w w') (hg : g < base) : w'.ownsRow base e size v n xs := by
  refine ⟨h.1, ?_⟩
  rcases h.2 with h0 | ⟨g', cap, cur, h1, h2, h3, h4⟩
  · exact .inl h0
  · exact .inr ⟨g', cap, cur, h1, h2, Has.only (cs := cur) (T := e) h3 ho (by omega), h4⟩
theorem Has.grown {w w' : World} {b : Nat} {cs : Array Value} {T : TypeId} {row : Option Nat} (h : Has w b cs T) (hg : w.grownBy w' row) (hne : row ≠ some b) : Has w' b cs T := (hg.block b h.lt (by exact fun e => hne e.symm)).trans h
end Go.Proofs.Ytbjahideaonimaa
