/- The number of sets of legs that link all stations without a loop is the determinant of the links: in plain Lean. -/
import Derived.Test.YtbjahideaonimaaMtA
import Derived.Test.YtbjahideaonimaaWalkP
import Derived.Test.YtbjahideaonimaaCnt
namespace Go.Proofs.Ytbjahideaonimaa
set_option linter.all false
/-- The label of each station is the least station of its part. -/
def PInv (n : Nat) (p : List Int) : Prop := p.length = n ∧ ∀ a, inS n a → 0 ≤ lab p a ∧ lab p a ≤ a ∧ lab p (lab p a) = lab p a
theorem PInv.own (n : Nat) : PInv n (ownL n) := ⟨ownL_length n, fun a h => by rw [lab_own h, lab_own h]; exact ⟨h.1, Int.le_refl _, rfl⟩⟩
theorem PInv.root {n : Nat} {p : List Int} (h : PInv n p) {x y : Int} (hx : inS n x) (hy : inS n y) : (0 ≤ min (lab p x) (lab p y) ∧ max (lab p x) (lab p y) < n) ∧ lab p (min (lab p x) (lab p y)) = min (lab p x) (lab p y) ∧ lab p (max (lab p x) (lab p y)) = max (lab p x) (lab p y) := by
  obtain ⟨a1, a2, a3⟩ := h.2 x hx
  obtain ⟨b1, b2, b3⟩ := h.2 y hy
  unfold inS at hx hy
  refine ⟨by omega, ?_, ?_⟩
  · rcases Int.le_total (lab p x) (lab p y) with e | e
    · rw [Int.min_eq_left e]; exact a3
    · rw [Int.min_eq_right e]; exact b3
  · rcases Int.le_total (lab p x) (lab p y) with e | e
    · rw [Int.max_eq_right e]; exact b3
    · rw [Int.max_eq_left e]; exact a3
theorem PInv.lj {n : Nat} {p : List Int} (h : PInv n p) (x y : Int) {b : Int} (hb : inS n b) : lab (joinL p x y) b = if lab p b = max (lab p x) (lab p y) then min (lab p x) (lab p y) else lab p b :=
  lab_join x y (by have := h.1; unfold inS at hb; omega)
theorem PInv.join {n : Nat} {p : List Int} (h : PInv n p) {x y : Int} (hx : inS n x) (hy : inS n y) : PInv n (joinL p x y) := by
  obtain ⟨⟨r0, r1⟩, r2, r3⟩ := h.root hx hy
  refine ⟨by rw [joinL_length, h.1], fun a ha => ?_⟩
  have ia := h.2 a ha
  rw [h.lj x y ha]
  unfold inS at ha
  split
  · rename_i e
    rw [h.lj x y (show inS n _ by unfold inS; omega), r2]
    refine ⟨by omega, by omega, ?_⟩
    split <;> rfl
  · rename_i e
    rw [h.lj x y (show inS n _ by unfold inS; omega), ia.2.2, if_neg e]
    exact ⟨ia.1, ia.2.1, rfl⟩
theorem cnt_join {n : Nat} {p : List Int} (h : PInv n p) {x y : Int} (hx : inS n x) (hy : inS n y) : cntL (joinL p x y) n + (if lab p x = lab p y then 0 else 1) = cntL p n := by
  by_cases e : lab p x = lab p y
  · rw [joinL_same e, if_pos e]; rfl
  · rw [if_neg e]
    obtain ⟨⟨r0, r1⟩, r2, r3⟩ := h.root hx hy
    have hl := h.1
    obtain ⟨lo, hlo⟩ := Int.eq_ofNat_of_zero_le r0
    obtain ⟨hi, hhi⟩ := Int.eq_ofNat_of_zero_le (show 0 ≤ max (lab p x) (lab p y) by omega)
    have g1 := lab_get (l := p) (a := (lo : Int)) (by omega) (by simp; omega)
    have g2 := lab_get (l := p) (a := (hi : Int)) (by omega) (by simp; omega)
    rw [hlo] at r2
    rw [hhi] at r3
    have := cntL_jn (l := p) (lo := lo) (hi := hi) (by simpa [r2] using g1) (by simpa [r3] using g2) (by omega) n (by omega)
    rw [if_pos (by omega)] at this
    unfold joinL
    rw [hlo, hhi]
    exact this
def fj (p : List Int) (U : List Lg) : List Int := U.foldl (fun l g => joinL l g.f g.t) p
/-- The ends of these legs are stations. -/
def EndsIn (n : Nat) (R : List Lg) : Prop := ∀ g ∈ R, inS n g.f ∧ inS n g.t
theorem fj_cnt {n : Nat} : ∀ (U : List Lg) (p : List Int), EndsIn n U → PInv n p → cntL p n ≤ cntL (fj p U) n + U.length
  | [], p, _, _ => by simp [fj]
  | e :: U, p, hU, hp => by
    have he := hU e (List.mem_cons_self ..)
    have ih := fj_cnt U (joinL p e.f e.t) (fun g hg => hU g (List.mem_cons_of_mem _ hg)) (hp.join he.1 he.2)
    have hc := cnt_join hp he.1 he.2
    have e2 : fj p (e :: U) = fj (joinL p e.f e.t) U := rfl
    rw [e2, List.length_cons]
    split at hc <;> omega
/-! The links of the parts -/
/-- What a leg between x and y adds at the places a and b. -/
def lapE (x y a b : Int) : Int := if x = y then 0 else if a = b then (if a = x ∨ a = y then 1 else 0) else if (a = x ∧ b = y) ∨ (a = y ∧ b = x) then -1 else 0
def mg (lo hi v : Int) : Int := if v = hi then lo else v
def lapG (g : Int → Int) (R : List Lg) (a b : Int) : Int := (R.map fun e => lapE (g e.f) (g e.t) a b).sum
theorem lapG_cons (g : Int → Int) (e : Lg) (R : List Lg) (a b : Int) : lapG g (e :: R) a b = lapE (g e.f) (g e.t) a b + lapG g R a b := by simp [lapG]
theorem lapG_far (g : Int → Int) {lo hi a b : Int} (h1 : a ≠ lo) (h2 : a ≠ hi) (h3 : b ≠ lo) (h4 : b ≠ hi) : ∀ R, lapG (fun v => mg lo hi (g v)) R a b = lapG g R a b
  | [] => rfl
  | e :: R => by
    rw [lapG_cons, lapG_cons, lapG_far g h1 h2 h3 h4 R]
    congr 1
    generalize g e.f = x
    generalize g e.t = y
    unfold lapE mg
    (repeat' split) <;> omega
theorem lapG_row (g : Int → Int) {lo hi b : Int} (h0 : lo ≠ hi) (h3 : b ≠ lo) (h4 : b ≠ hi) : ∀ R, lapG (fun v => mg lo hi (g v)) R lo b = lapG g R lo b + lapG g R hi b
  | [] => rfl
  | e :: R => by
    rw [lapG_cons, lapG_cons, lapG_cons, lapG_row g h0 h3 h4 R]
    have : lapE (mg lo hi (g e.f)) (mg lo hi (g e.t)) lo b = lapE (g e.f) (g e.t) lo b + lapE (g e.f) (g e.t) hi b := by
      generalize g e.f = x
      generalize g e.t = y
      unfold lapE mg
      (repeat' split) <;> omega
    omega
theorem lapG_col (g : Int → Int) {lo hi a : Int} (h0 : lo ≠ hi) (h3 : a ≠ lo) (h4 : a ≠ hi) : ∀ R, lapG (fun v => mg lo hi (g v)) R a lo = lapG g R a lo + lapG g R a hi
  | [] => rfl
  | e :: R => by
    rw [lapG_cons, lapG_cons, lapG_cons, lapG_col g h0 h3 h4 R]
    have : lapE (mg lo hi (g e.f)) (mg lo hi (g e.t)) a lo = lapE (g e.f) (g e.t) a lo + lapE (g e.f) (g e.t) a hi := by
      generalize g e.f = x
      generalize g e.t = y
      unfold lapE mg
      (repeat' split) <;> omega
    omega
theorem lapE_diag (x y a : Int) : lapE x y a a = if x = y then 0 else if a = x ∨ a = y then 1 else 0 := by unfold lapE; rw [if_pos (rfl : a = a)]
theorem lapE_off {a b : Int} (h : a ≠ b) (x y : Int) : lapE x y a b = if x = y then 0 else if (a = x ∧ b = y) ∨ (a = y ∧ b = x) then -1 else 0 := by unfold lapE; rw [if_neg h]
theorem lapE_both {lo hi : Int} (h0 : lo ≠ hi) (x y : Int) : lapE (mg lo hi x) (mg lo hi y) lo lo = lapE x y lo lo + (lapE x y lo hi + (lapE x y hi lo + lapE x y hi hi)) := by
  rw [lapE_diag, lapE_diag, lapE_diag, lapE_off h0, lapE_off h0.symm]
  unfold mg
  by_cases e1 : x = y
  · subst e1
    simp
  · simp only [if_neg e1]
    by_cases e2 : x = hi
    · have e3 : y ≠ hi := by omega
      rw [if_pos e2, if_neg e3]
      (repeat' split) <;> omega
    · rw [if_neg e2]
      by_cases e3 : y = hi
      · rw [if_pos e3]
        (repeat' split) <;> omega
      · rw [if_neg e3]
        (repeat' split) <;> omega
theorem lapG_both (g : Int → Int) {lo hi : Int} (h0 : lo ≠ hi) : ∀ R, lapG (fun v => mg lo hi (g v)) R lo lo = lapG g R lo lo + (lapG g R lo hi + (lapG g R hi lo + lapG g R hi hi))
  | [] => rfl
  | e :: R => by
    rw [lapG_cons, lapG_cons, lapG_cons, lapG_cons, lapG_cons, lapG_both g h0 R]
    have : lapE (mg lo hi (g e.f)) (mg lo hi (g e.t)) lo lo = lapE (g e.f) (g e.t) lo lo + (lapE (g e.f) (g e.t) lo hi + (lapE (g e.f) (g e.t) hi lo + lapE (g e.f) (g e.t) hi hi)) := by
      generalize g e.f = x
      generalize g e.t = y
      exact lapE_both h0 x y
    omega
def quo (p : List Int) (R : List Lg) (i j : Nat) : Int :=
  if lab p ((i : Int) + 1) = (i : Int) + 1 ∧ lab p ((j : Int) + 1) = (j : Int) + 1 then lapG (lab p) R ((i : Int) + 1) ((j : Int) + 1) else if i = j then 1 else 0
theorem lapG_join {n : Nat} {p : List Int} (h : PInv n p) (x y : Int) {R : List Lg} (hR : EndsIn n R) (a b : Int) : lapG (lab (joinL p x y)) R a b = lapG (fun v => mg (min (lab p x) (lab p y)) (max (lab p x) (lab p y)) (lab p v)) R a b := by
  unfold lapG
  congr 1
  apply List.map_congr_left
  intro g hg
  have := hR g hg
  rw [h.lj x y this.1, h.lj x y this.2]
  rfl
theorem det_join {n : Nat} (h1 : 1 ≤ n) (h6 : n ≤ 6) {p : List Int} (hp : PInv n p) {e : Lg} {R : List Lg} (he : inS n e.f ∧ inS n e.t) (hR : EndsIn n R) (hne : lab p e.f ≠ lab p e.t) :
    detF (n - 1) (quo p (e :: R)) = detF (n - 1) (quo p R) + detF (n - 1) (quo (joinL p e.f e.t) R) := by
  obtain ⟨⟨r0, r1⟩, r2, r3⟩ := hp.root he.1 he.2
  have J := fun b (hb : inS n b) => hp.lj e.f e.t hb
  have G := lapG_join hp e.f e.t hR
  obtain ⟨lo, hlo⟩ : ∃ lo, min (lab p e.f) (lab p e.t) = lo := ⟨_, rfl⟩
  obtain ⟨hi, hhi⟩ : ∃ hi, max (lab p e.f) (lab p e.t) = hi := ⟨_, rfl⟩
  have E : ∀ a b, lapE (lab p e.f) (lab p e.t) a b = lapE lo hi a b := fun a b => by
    unfold lapE
    (repeat' split) <;> omega
  have hlt : lo < hi := by omega
  rw [hlo] at r0 r2
  rw [hhi] at r1 r3
  simp only [hlo, hhi] at J G
  obtain ⟨hN, hhN⟩ := Int.eq_ofNat_of_zero_le (show 0 ≤ hi - 1 by omega)
  obtain rfl : hi = (hN : Int) + 1 := by omega
  have rep : ∀ i : Nat, i < n - 1 → i ≠ hN → (lab (joinL p e.f e.t) ((i : Int) + 1) = (i : Int) + 1 ↔ lab p ((i : Int) + 1) = (i : Int) + 1) := fun i hi0 hih => by
    rw [J _ (show inS n _ by unfold inS; omega)]
    split
    · rename_i e1
      constructor
      · intro e2; rw [← e2, r2] at e1; omega
      · intro e2; omega
    · rfl
  have nrep : lab (joinL p e.f e.t) ((hN : Int) + 1) ≠ (hN : Int) + 1 := by
    rw [J _ (show inS n _ by unfold inS; omega), if_pos r3]; omega
  by_cases hl0 : lo = 0
  · subst hl0
    rw [detF_congr (n - 1) (quo p (e :: R)) (lnk1 (quo p R) hN) fun i j hi hj => ?_, det_lnk1 (n - 1) (by omega) _ (by omega), detF_congr (n - 1) (one1 (quo p R) hN) (quo (joinL p e.f e.t) R) fun i j hi hj => ?_]
    · unfold one1
      by_cases hh : i = hN ∨ j = hN
      · rw [if_pos hh]
        unfold quo
        rw [if_neg (show ¬ (lab (joinL p e.f e.t) ((i : Int) + 1) = (i : Int) + 1 ∧ lab (joinL p e.f e.t) ((j : Int) + 1) = (j : Int) + 1) from fun hc => by rcases hh with rfl | rfl; exact nrep hc.1; exact nrep hc.2)]
      · rw [if_neg hh]
        unfold quo
        simp only [rep i hi (by omega), rep j hj (by omega), G]
        split
        · rw [lapG_far _ (by omega) (by omega) (by omega) (by omega)]
        · rfl
    · unfold lnk1 quo
      rw [lapG_cons, E]
      split
      · rw [Int.add_comm]
        congr 1
        unfold lapE
        (repeat' split) <;> omega
      · rename_i hc
        rw [if_neg (show ¬ (i = hN ∧ j = hN) from fun hh => by rcases hh with ⟨rfl, rfl⟩; exact hc ⟨r3, r3⟩)]
        omega
  · obtain ⟨l, hll⟩ := Int.eq_ofNat_of_zero_le (show 0 ≤ lo - 1 by omega)
    obtain rfl : lo = (l : Int) + 1 := by omega
    rw [detF_congr (n - 1) (quo p (e :: R)) (lnk2 (quo p R) l hN) fun i j hi hj => ?_, det_lnk2 (n - 1) (by omega) _ (show l < hN by omega) (by omega), detF_congr (n - 1) (one2 (quo p R) l hN) (quo (joinL p e.f e.t) R) fun i j hi hj => ?_]
    · unfold one2
      by_cases hh : i = hN ∨ j = hN
      · rw [if_pos hh]
        unfold quo
        rw [if_neg (show ¬ (lab (joinL p e.f e.t) ((i : Int) + 1) = (i : Int) + 1 ∧ lab (joinL p e.f e.t) ((j : Int) + 1) = (j : Int) + 1) from fun hc => by rcases hh with rfl | rfl; exact nrep hc.1; exact nrep hc.2)]
      · rw [if_neg hh]
        unfold quo
        simp only [rep i hi (by omega), rep j hj (by omega), G]
        by_cases h3 : i = l
        · subst h3
          by_cases h4 : j = i
          · subst h4
            simp only [r2, r3, and_self, if_true]
            rw [lapG_both _ (by omega)]
          · rw [if_neg (show ¬ (i = i ∧ j = i) by omega), if_pos rfl]
            simp only [r2, r3, true_and]
            by_cases h5 : lab p ((j : Int) + 1) = (j : Int) + 1
            · rw [if_pos h5, if_pos h5, if_pos h5, lapG_row _ (by omega) (by omega) (by omega)]
            · rw [if_neg h5, if_neg h5, if_neg h5, if_neg (show ¬ i = j by omega), if_neg (show ¬ hN = j by omega)]
              rfl
        · rw [if_neg (show ¬ (i = l ∧ j = l) by omega), if_neg h3]
          by_cases h4 : j = l
          · subst h4
            rw [if_pos rfl]
            simp only [r2, r3, and_true]
            by_cases h5 : lab p ((i : Int) + 1) = (i : Int) + 1
            · rw [if_pos h5, if_pos h5, if_pos h5, lapG_col _ (by omega) (by omega) (by omega)]
            · rw [if_neg h5, if_neg h5, if_neg h5, if_neg (show ¬ i = j by omega), if_neg (show ¬ i = hN by omega)]
              rfl
          · rw [if_neg h4]
            split
            · rw [lapG_far _ (by omega) (by omega) (by omega) (by omega)]
            · rfl
    · unfold lnk2 quo
      rw [lapG_cons, E]
      split
      · rw [Int.add_comm]
        congr 1
        unfold lapE
        (repeat' split) <;> omega
      · rename_i hc
        rw [if_neg (show ¬ ((i = l ∧ j = l) ∨ (i = hN ∧ j = hN)) from fun hh => by rcases hh with ⟨rfl, rfl⟩ | ⟨rfl, rfl⟩; exact hc ⟨r2, r2⟩; exact hc ⟨r3, r3⟩),
          if_neg (show ¬ ((i = l ∧ j = hN) ∨ (i = hN ∧ j = l)) from fun hh => by rcases hh with ⟨rfl, rfl⟩ | ⟨rfl, rfl⟩; exact hc ⟨r2, r3⟩; exact hc ⟨r3, r2⟩)]
        omega
theorem det_same {n : Nat} {p : List Int} {e : Lg} {R : List Lg} (he : lab p e.f = lab p e.t) : detF (n - 1) (quo p (e :: R)) = detF (n - 1) (quo p R) :=
  detF_congr _ _ _ fun i j _ _ => by
    unfold quo
    rw [lapG_cons, he]
    have : lapE (lab p e.t) (lab p e.t) ((i : Int) + 1) ((j : Int) + 1) = 0 := by unfold lapE; rw [if_pos rfl]
    rw [this, Int.zero_add]
theorem cnt_one {n : Nat} {p : List Int} (hp : PInv n p) : ∀ k, k + 1 ≤ n → 1 ≤ cntL p (k + 1) ∧ (cntL p (k + 1) = 1 ↔ ∀ i : Nat, i < k → lab p ((i : Int) + 1) ≠ (i : Int) + 1)
  | 0, h => by
    have hl := hp.1
    have := hp.2 0 (by unfold inS; omega)
    have g := lab_get (l := p) (a := 0) (by omega) (by simp; omega)
    have g2 : p[0]'(by omega) = 0 := by
      have e : p[0]? = some (lab p 0) := by simpa using g
      rw [List.getElem?_eq_getElem (by omega)] at e
      have := Option.some.inj e
      omega
    rw [cntL_succ p 0 (by omega), g2, cntL_zero]
    simp
  | k + 1, h => by
    have hl := hp.1
    obtain ⟨a, b⟩ := cnt_one hp k (by omega)
    have g := lab_get (l := p) (a := ((k : Int) + 1)) (by omega) (by omega)
    have e0 : ((k : Int) + 1).toNat = k + 1 := by omega
    have g2 : p[k + 1]'(by omega) = lab p ((k : Int) + 1) := by
      rw [e0, List.getElem?_eq_getElem (by omega)] at g
      exact Option.some.inj g
    rw [cntL_succ p (k + 1) (by omega), g2]
    refine ⟨by omega, ?_⟩
    constructor
    · intro hc i hi
      split at hc
      · omega
      · rename_i hn
        rcases Nat.lt_or_ge i k with hik | hik
        · exact b.1 (by omega) i hik
        · obtain rfl : i = k := by omega
          intro hx; exact hn (by rw [hx]; omega)
    · intro hc
      rw [if_neg (fun hx => hc k (by omega) (by rw [hx]; omega)), b.2 fun i hi => hc i (by omega)]
theorem det_none {n : Nat} (h1 : 1 ≤ n) {p : List Int} (hp : PInv n p) : detF (n - 1) (quo p []) = if cntL p n = 1 then 1 else 0 := by
  have e := cnt_one hp (n - 1) (by omega)
  rw [show n - 1 + 1 = n by omega] at e
  rw [detF_congr (n - 1) (quo p []) (fun i j => if i = j then (if lab p ((i : Int) + 1) = (i : Int) + 1 then 0 else 1) else 0) fun i j _ _ => by
    unfold quo
    by_cases hij : i = j
    · subst hij
      rw [if_pos rfl, if_pos rfl]
      simp [lapG]
    · rw [if_neg hij, if_neg hij]
      simp [lapG], det_diag (n - 1) _ fun i _ => by split <;> simp]
  by_cases hc : cntL p n = 1
  · rw [if_pos hc, if_pos fun i hi => by rw [if_neg (e.2.1 hc i hi)]]
  · rw [if_neg hc, if_neg fun hh => hc (e.2.2 fun i hi hx => by have := hh i hi; rw [if_pos hx] at this; cases this)]
/-! Sets of legs as numbers -/
def chS : List Lg → Nat → List Lg
  | [], _ => []
  | e :: R, s => if s % 2 = 1 then e :: chS R (s / 2) else chS R (s / 2)
theorem chS_mem : ∀ {R : List Lg} {s : Nat} {g : Lg}, g ∈ chS R s → g ∈ R
  | [], _, _, h => by simp [chS] at h
  | e :: R, s, g, h => by
    unfold chS at h
    split at h
    · rcases List.mem_cons.1 h with rfl | h
      · exact List.mem_cons_self ..
      · exact List.mem_cons_of_mem _ (chS_mem h)
    · exact List.mem_cons_of_mem _ (chS_mem h)
theorem range_two (f : Nat → Bool) : ∀ m, ((List.range (2 * m)).filter f).length = ((List.range m).filter fun s => f (2 * s)).length + ((List.range m).filter fun s => f (2 * s + 1)).length
  | 0 => rfl
  | m + 1 => by
    rw [show 2 * (m + 1) = 2 * m + 1 + 1 by omega, List.range_succ, List.range_succ, List.range_succ]
    simp only [List.filter_append, List.length_append, range_two f m]
    have s1 : ∀ (b : Nat → Bool) (x : Nat), ([x].filter b).length = if b x then 1 else 0 := fun b x => by cases h : b x <;> simp [h]
    rw [s1, s1, s1, s1]
    omega
/-- How many sets of these legs are such. -/
def kt (P : List Lg → Bool) (R : List Lg) : Nat := ((List.range (2 ^ R.length)).filter fun s => P (chS R s)).length
theorem chS_even (e : Lg) (R : List Lg) (s : Nat) : chS (e :: R) (2 * s) = chS R s := by
  rw [chS, if_neg (by omega), show 2 * s / 2 = s by omega]
theorem chS_odd (e : Lg) (R : List Lg) (s : Nat) : chS (e :: R) (2 * s + 1) = e :: chS R s := by
  rw [chS, if_pos (by omega), show (2 * s + 1) / 2 = s by omega]
theorem kt_cons (P : List Lg → Bool) (e : Lg) (R : List Lg) : kt P (e :: R) = kt P R + kt (fun U => P (e :: U)) R := by
  unfold kt
  rw [List.length_cons, Nat.pow_succ, Nat.mul_comm, range_two]
  simp only [chS_even, chS_odd]
theorem kt_nil (P : List Lg → Bool) : kt P [] = if P [] then 1 else 0 := by
  unfold kt
  cases h : P [] <;> simp [chS, h]
theorem kt_none {P : List Lg → Bool} {R : List Lg} (h : ∀ U, (∀ g ∈ U, g ∈ R) → P U = false) : kt P R = 0 := by
  unfold kt
  rw [List.length_eq_zero_iff, List.filter_eq_nil_iff]
  intro s _ hs
  rw [h _ fun g hg => chS_mem hg] at hs
  cases hs
def goodB (n : Nat) (p : List Int) (c : Nat) (U : List Lg) : Bool := decide (U.length = c ∧ cntL (fj p U) n = 1)
theorem kt_det {n : Nat} (h1 : 1 ≤ n) (h6 : n ≤ 6) : ∀ (R : List Lg) (p : List Int) (c : Nat), EndsIn n R → PInv n p → cntL p n = c + 1 → (kt (goodB n p c) R : Int) = detF (n - 1) (quo p R)
  | [], p, c, _, hp, hc => by
    rw [kt_nil, det_none h1 hp]
    unfold goodB
    by_cases hc0 : c = 0
    · subst hc0
      rw [if_pos (by simpa [fj] using hc), if_pos hc]
      rfl
    · rw [if_neg (by simp; omega), if_neg (by omega)]
      rfl
  | e :: R, p, c, hR, hp, hc => by
    have he := hR e (List.mem_cons_self ..)
    have hR' : EndsIn n R := fun g hg => hR g (List.mem_cons_of_mem _ hg)
    rw [kt_cons]
    have ih := kt_det h1 h6 R p c hR' hp hc
    have hj := cnt_join hp he.1 he.2
    by_cases hne : lab p e.f = lab p e.t
    · rw [det_same hne, kt_none (P := fun U => goodB n p c (e :: U)) fun U hU => ?_]
      · exact ih
      · have := fj_cnt U p (fun g hg => hR' g (hU g hg)) hp
        have e2 : fj p (e :: U) = fj (joinL p e.f e.t) U := rfl
        unfold goodB
        rw [e2, joinL_same hne, List.length_cons]
        simp only [decide_eq_false_iff_not]
        omega
    · rw [if_neg hne] at hj
      have hp' := hp.join he.1 he.2
      have h0 := (cnt_one hp' (n - 1) (by omega)).1
      rw [show n - 1 + 1 = n by omega] at h0
      obtain ⟨c', rfl⟩ : ∃ c', c = c' + 1 := ⟨c - 1, by omega⟩
      have ih2 := kt_det h1 h6 R (joinL p e.f e.t) c' hR' hp' (by omega)
      have e3 : (fun U => goodB n p (c' + 1) (e :: U)) = goodB n (joinL p e.f e.t) c' := by
        funext U
        unfold goodB
        have e2 : fj p (e :: U) = fj (joinL p e.f e.t) U := rfl
        rw [e2, List.length_cons]
        simp
      rw [e3, det_join h1 h6 hp he hR' hne, ← ih, ← ih2]
      simp
/-- Sets with the leg i, and sets without it. -/
theorem kt_with : ∀ (R : List Lg) (i : Nat) (P : List Lg → Bool), i < R.length → ((List.range (2 ^ R.length)).filter fun s => P (chS R s) && s.testBit i).length + kt P (R.eraseIdx i) = kt P R
  | [], i, _, h => by simp at h
  | e :: R, 0, P, _ => by
    rw [kt_cons]
    rw [List.length_cons, Nat.pow_succ, Nat.mul_comm, range_two]
    simp only [chS_even, chS_odd, List.eraseIdx_zero, List.tail_cons]
    have a : ∀ s : Nat, (2 * s).testBit 0 = false := fun s => by simp [Nat.testBit_zero]
    have b : ∀ s : Nat, (2 * s + 1).testBit 0 = true := fun s => by simp [Nat.testBit_zero]
    simp only [a, b, Bool.and_false, Bool.and_true]
    have z : ((List.range (2 ^ R.length)).filter fun _ => false).length = 0 := by simp
    rw [z]
    unfold kt
    dsimp only
    omega
  | e :: R, i + 1, P, h => by
    have hi : i < R.length := by simpa using h
    rw [kt_cons, List.eraseIdx_cons_succ, kt_cons]
    rw [← kt_with R i P hi, ← kt_with R i (fun U => P (e :: U)) hi]
    rw [List.length_cons, Nat.pow_succ, Nat.mul_comm, range_two]
    have a : ∀ s : Nat, (2 * s).testBit (i + 1) = s.testBit i := fun s => by rw [Nat.testBit_succ]; congr 1; omega
    have b : ∀ s : Nat, (2 * s + 1).testBit (i + 1) = s.testBit i := fun s => by rw [Nat.testBit_succ]; congr 1; omega
    simp only [chS_even, chS_odd, a, b]
    omega
/-! The links of a survey -/
theorem ad1_eq (h : Nat → Int) (r : Nat) (d : Int) (y : Nat) : ad1 h r d y = h y + (if y = r then d else 0) := by
  unfold ad1
  by_cases e : y = r
  · subst e; rw [if_pos rfl, if_pos rfl]
  · rw [if_neg e, if_neg e]; omega
theorem lnk_lap (F : Nat → Nat → Int) {f t : Int} (h1 : 0 ≤ f) (h2 : 0 ≤ t) (h3 : f ≠ t) (i j : Nat) : lnk F f t i j = F i j + lapE f t ((i : Int) + 1) ((j : Int) + 1) := by
  rw [lnk_row F f t i h1 h2 h3]
  unfold stp
  by_cases e1 : t = (i : Int) + 1
  · rw [if_pos e1]
    by_cases e2 : 0 < f
    · rw [if_pos e2]
      simp only [ad1_eq]
      unfold lapE ix
      (repeat' split) <;> omega
    · rw [if_neg e2]
      simp only [ad1_eq]
      unfold lapE ix
      (repeat' split) <;> omega
  · rw [if_neg e1]
    by_cases e3 : f = (i : Int) + 1
    · rw [if_pos e3]
      by_cases e2 : 0 < t
      · rw [if_pos e2]
        simp only [ad1_eq]
        unfold lapE ix
        (repeat' split) <;> omega
      · rw [if_neg e2]
        simp only [ad1_eq]
        unfold lapE ix
        (repeat' split) <;> omega
    · rw [if_neg e3]
      unfold lapE
      (repeat' split) <;> omega
theorem linkF_lap (i j : Nat) : ∀ (L : List Lg) (F : Nat → Nat → Int), (∀ g ∈ L, 0 ≤ g.f ∧ 0 ≤ g.t ∧ g.f ≠ g.t) → (L.foldl (fun F g => lnk F g.f g.t) F) i j = F i j + lapG (fun v => v) L ((i : Int) + 1) ((j : Int) + 1)
  | [], F, _ => by simp [lapG]
  | e :: L, F, h => by
    obtain ⟨a, b, c⟩ := h e (List.mem_cons_self ..)
    rw [List.foldl_cons, linkF_lap i j L _ (fun g hg => h g (List.mem_cons_of_mem _ hg)), lnk_lap F a b c, lapG_cons]
    omega
theorem sv_ends {n : Nat} {L : List Lg} (h : svB n L = true) : EndsIn n L := fun g hg => by
  have := ok_facts ((svB_true h).2.2.2 g hg)
  unfold inS
  omega
theorem link_quo {n : Nat} {L : List Lg} (h : svB n L = true) (i j : Nat) (hi : i < n - 1) (hj : j < n - 1) : linkF L i j = quo (ownL n) L i j := by
  have hE := sv_ends h
  unfold linkF quo
  rw [linkF_lap i j L _ fun g hg => by have := ok_facts ((svB_true h).2.2.2 g hg); omega]
  rw [if_pos ⟨lab_own (by unfold inS; omega), lab_own (by unfold inS; omega)⟩]
  rw [Int.zero_add]
  unfold lapG
  congr 1
  apply List.map_congr_left
  intro g hg
  have := hE g hg
  rw [lab_own this.1, lab_own this.2]
theorem links_mv {n : Nat} {L : List Lg} (h : svB n L = true) : mvB (sq (n - 1) (linkF L)) = true := by
  obtain ⟨a, b, c, _⟩ := svB_true h
  have hb := linkF_bd L
  refine mvB_good (by rw [sq_length]; omega) fun k hk => ?_
  have hr := List.getElem_mem hk
  refine ⟨by rw [sq_length]; exact sq_rows hr, fitB_good fun j hj => ?_⟩
  rw [sq_length] at hk
  have e := sq_row (n - 1) (linkF L) k hk
  rw [List.getElem?_eq_getElem (by rw [sq_length]; exact hk)] at e
  have e := Option.some.inj e
  have e2 : (sq (n - 1) (linkF L))[k][j] = linkF L k j := by simp [e]
  rw [e2, inB_t]
  have := hb k j
  omega
/-- The determinant of the links is the number of trees. -/
theorem trees_det {n : Nat} {L : List Lg} (h : svB n L = true) : detM (linksM n L) = (kt (goodB n (ownL n) (n - 1)) L : Int) := by
  obtain ⟨a, b, c, _⟩ := svB_true h
  rw [linksM_ok h, show ((n : Int) - 1).toNat = n - 1 by omega]
  unfold detM
  rw [links_mv h, if_pos rfl, sq_length, detR_sq, detF_congr _ _ _ fun i j hi hj => link_quo h i j hi hj,
    kt_det (by omega) (by omega) L (ownL n) (n - 1) (sv_ends h) (PInv.own n) (by rw [cntL_own n n (Nat.le_refl _)]; omega)]
/-- What TreesWith returns: the number of trees less that without the leg, and the number of trees with it. -/
theorem trees_with {n : Nat} {L : List Lg} (h : svB n L = true) {i : Nat} (hi : i < L.length) :
    detM (linksM n L) - detM (linksM n (L.eraseIdx i)) = (((List.range (2 ^ L.length)).filter fun s => goodB n (ownL n) (n - 1) (chS L s) && s.testBit i).length : Int) := by
  have h2 : svB n (L.eraseIdx i) = true := by
    obtain ⟨a, b, c, d⟩ := svB_true h
    refine svB_good a b (by rw [List.length_eraseIdx]; split <;> omega) fun j hj => d _ (List.mem_of_mem_eraseIdx (List.getElem_mem hj))
  rw [trees_det h, trees_det h2, ← kt_with L i _ hi]
  omega
end Go.Proofs.Ytbjahideaonimaa
