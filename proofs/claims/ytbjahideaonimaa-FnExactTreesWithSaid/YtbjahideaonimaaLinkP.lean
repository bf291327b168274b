/- The matrix of links in plain Lean: leg by leg over the whole matrix, and row by row over the legs. -/
import Derived.Test.YtbjahideaonimaaSDet
namespace Go.Proofs.Ytbjahideaonimaa
set_option linter.all false
def adF (f : Nat → Nat → Int) (c r : Nat) (d : Int) : Nat → Nat → Int := upd f c r (f c r + d)
def ix (a : Int) : Nat := (a - 1).toNat
/-- What addLink does. -/
def lnk (f : Nat → Nat → Int) (a b : Int) : Nat → Nat → Int :=
  let f1 := if 0 < a then adF f (ix a) (ix a) 1 else f
  let f2 := if 0 < b then adF f1 (ix b) (ix b) 1 else f1
  if 0 < a ∧ 0 < b then adF (adF f2 (ix a) (ix b) (-1)) (ix b) (ix a) (-1) else f2
def ad1 (h : Nat → Int) (r : Nat) (d : Int) : Nat → Int := fun x => if x = r then h r + d else h x
/-- What a round over a leg does to the row of station a. -/
def stp (a : Int) (f t : Int) (h : Nat → Int) : Nat → Int :=
  if t = a then (if 0 < f then ad1 (ad1 h (ix a) 1) (ix f) (-1) else ad1 h (ix a) 1)
  else if f = a then (if 0 < t then ad1 (ad1 h (ix a) 1) (ix t) (-1) else ad1 h (ix a) 1) else h
theorem ad_eq (f : Nat → Nat → Int) (c r : Nat) (d : Int) (x y : Nat) : adF f c r d x y = if x = c ∧ y = r then f c r + d else f x y := rfl
theorem lnk_row (F : Nat → Nat → Int) (f t : Int) (c : Nat) (hf : 0 ≤ f) (ht : 0 ≤ t) (hne : f ≠ t) : (lnk F f t) c = stp ((c : Int) + 1) f t (F c) := by
  funext y
  unfold lnk stp
  try simp only
  by_cases h1 : t = (c : Int) + 1
  · have e1 : ix t = c := by unfold ix; omega
    have e2 : ix ((c : Int) + 1) = c := by unfold ix; omega
    rw [if_pos h1, e2]
    by_cases h2 : 0 < f
    · have e3 : ix f ≠ c := by unfold ix; omega
      rw [if_pos h2, if_pos h2, if_pos (show 0 < t by omega), if_pos (show 0 < f ∧ 0 < t by omega), e1]
      simp only [ad_eq, ad1]
      by_cases h3 : y = ix f
      · subst h3
        have e4 : ¬ c = ix f := fun e => e3 e.symm
        simp [e3, e4]
      · by_cases h4 : y = c
        · subst h4
          have e4 : ¬ y = ix f := h3
          simp [e4]
        · have e4 : ¬ c = ix f := fun e => e3 e.symm
          simp [h3, h4, e4]
    · rw [if_neg h2, if_neg h2, if_pos (show 0 < t by omega), if_neg (show ¬ (0 < f ∧ 0 < t) by omega), e1]
      simp only [ad_eq, ad1]
      by_cases h4 : y = c <;> simp [h4]
  · have e1 : 0 < t → ix t ≠ c := fun h => by unfold ix; omega
    rw [if_neg h1]
    by_cases h2 : f = (c : Int) + 1
    · have e2 : ix f = c := by unfold ix; omega
      have e5 : ix ((c : Int) + 1) = c := by unfold ix; omega
      rw [if_pos h2, if_pos (show 0 < f by omega), e2, e5]
      by_cases h3 : 0 < t
      · have e3 := e1 h3
        have e4 : ¬ c = ix t := fun e => e3 e.symm
        rw [if_pos h3, if_pos h3, if_pos (show 0 < f ∧ 0 < t by omega)]
        simp only [ad_eq, ad1]
        by_cases h5 : y = ix t
        · subst h5; simp [e3, e4]
        · by_cases h4 : y = c
          · subst h4; simp [e4]
          · simp [h5, h4, e4]
      · rw [if_neg h3, if_neg h3, if_neg (show ¬ (0 < f ∧ 0 < t) by omega)]
        simp only [ad_eq, ad1]
        by_cases h4 : y = c <;> simp [h4]
    · have e2 : 0 < f → ix f ≠ c := fun h => by unfold ix; omega
      rw [if_neg h2]
      by_cases h3 : 0 < f
      · have e3 : ¬ c = ix f := fun e => e2 h3 e.symm
        rw [if_pos h3]
        by_cases h4 : 0 < t
        · have e4 : ¬ c = ix t := fun e => e1 h4 e.symm
          rw [if_pos h4, if_pos (show 0 < f ∧ 0 < t by omega)]
          simp [ad_eq, e3, e4]
        · rw [if_neg h4, if_neg (show ¬ (0 < f ∧ 0 < t) by omega)]
          simp [ad_eq, e3]
      · rw [if_neg h3]
        by_cases h4 : 0 < t
        · have e4 : ¬ c = ix t := fun e => e1 h4 e.symm
          rw [if_pos h4, if_neg (show ¬ (0 < f ∧ 0 < t) by omega)]
          simp [ad_eq, e4]
        · rw [if_neg h4, if_neg (show ¬ (0 < f ∧ 0 < t) by omega)]
def linkF (L : List Lg) : Nat → Nat → Int := L.foldl (fun F g => lnk F g.f g.t) fun _ _ => 0
def rowF (a : Int) (L : List Lg) : Nat → Int := L.foldl (fun h g => stp a g.f g.t h) fun _ => 0
theorem linkF_row' {st : Int} (c : Nat) : ∀ (L : List Lg), (∀ g ∈ L, Lg.ok st g = true) → ∀ F : Nat → Nat → Int, (L.foldl (fun F g => lnk F g.f g.t) F) c = L.foldl (fun h g => stp ((c : Int) + 1) g.f g.t h) (F c) := by
  intro L
  induction L with
  | nil => intro _ F; rfl
  | cons g L ih =>
    intro h F
    have hg := legB_t.1 (h g (List.mem_cons_self ..))
    rw [List.foldl_cons, List.foldl_cons, ih (fun q hq => h q (List.mem_cons_of_mem _ hq)), lnk_row F g.f g.t c (by omega) (by omega) (by omega)]
theorem linkF_row {st : Int} {L : List Lg} (h : ∀ g ∈ L, Lg.ok st g = true) (c : Nat) : linkF L c = rowF ((c : Int) + 1) L := linkF_row' c L h _
theorem linkF_snoc (L : List Lg) (k : Nat) (h : k < L.length) : linkF (L.take (k + 1)) = lnk (linkF (L.take k)) L[k].f L[k].t := by
  unfold linkF; rw [List.take_succ_eq_append_getElem h, List.foldl_append]; rfl
theorem rowF_snoc (a : Int) (L : List Lg) (k : Nat) (h : k < L.length) : rowF a (L.take (k + 1)) = stp a L[k].f L[k].t (rowF a (L.take k)) := by
  unfold rowF; rw [List.take_succ_eq_append_getElem h, List.foldl_append]; rfl
/-- All entries within B. -/
def Bd (f : Nat → Nat → Int) (B : Int) : Prop := ∀ c r, -B ≤ f c r ∧ f c r ≤ B
theorem Bd.adF {f : Nat → Nat → Int} {B : Int} (h : Bd f B) (c r : Nat) (d : Int) (hd : -1 ≤ d ∧ d ≤ 1) : Bd (Go.Proofs.Ytbjahideaonimaa.adF f c r d) (B + 1) := fun x y => by
  rw [ad_eq]
  have h1 := h c r
  have h2 := h x y
  split <;> omega
theorem Bd.mono {f : Nat → Nat → Int} {B C : Int} (h : Bd f B) (hc : B ≤ C) : Bd f C := fun x y => by have := h x y; omega
theorem Bd.lnk {f : Nat → Nat → Int} {B : Int} (h : Bd f B) (a b : Int) : Bd (lnk f a b) (B + 4) := by
  unfold Go.Proofs.Ytbjahideaonimaa.lnk
  try simp only
  by_cases ha : 0 < a
  · by_cases hb : 0 < b
    · rw [if_pos ha, if_pos hb, if_pos ⟨ha, hb⟩]
      exact (((((h.adF _ _ _ (by omega)).adF _ _ _ (by omega)).adF _ _ _ (by omega)).adF _ _ _ (by omega))).mono (by omega)
    · rw [if_pos ha, if_neg hb, if_neg (fun e => hb e.2)]
      exact (h.adF _ _ _ (by omega)).mono (by omega)
  · by_cases hb : 0 < b
    · rw [if_neg ha, if_pos hb, if_neg (fun e => ha e.1)]
      exact (h.adF _ _ _ (by omega)).mono (by omega)
    · rw [if_neg ha, if_neg hb, if_neg (fun e => ha e.1)]
      exact h.mono (by omega)
theorem linkF_bd' : ∀ (L : List Lg) (F : Nat → Nat → Int) (B : Int), Bd F B → Bd (L.foldl (fun F g => Go.Proofs.Ytbjahideaonimaa.lnk F g.f g.t) F) (B + 4 * L.length) := by
  intro L
  induction L with
  | nil => intro F B h; simpa using h
  | cons g L ih =>
    intro F B h
    rw [List.foldl_cons]
    exact (ih _ _ (h.lnk _ _)).mono (by simp; omega)
theorem linkF_bd (L : List Lg) : Bd (linkF L) (4 * L.length) := (linkF_bd' L _ 0 (fun _ _ => by simp)).mono (by omega)
/-- What Links returns. -/
def linksM (st : Int) (L : List Lg) : List (List Int) := if svB st L then sq (st - 1).toNat (linkF L) else []
theorem linksM_no {st : Int} {L : List Lg} (h : svB st L = false) : linksM st L = [] := by simp [linksM, h]
theorem linksM_ok {st : Int} {L : List Lg} (h : svB st L = true) : linksM st L = sq (st - 1).toNat (linkF L) := by simp [linksM, h]
end Go.Proofs.Ytbjahideaonimaa
