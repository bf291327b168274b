/- Determinants of functions; a link more is the determinant and that of the matrix with the two places as one (checked as polynomials, for at most five rows). -/
import Derived.Test.YtbjahideaonimaaLinkP
namespace Go.Proofs.Ytbjahideaonimaa
set_option linter.all false
def shf (f : Nat → Nat → Int) (k : Nat) : Nat → Nat → Int := fun i j => f (i + 1) (if j < k then j else j + 1)
/-- The determinant of the first n rows and columns of a function. -/
def detF : Nat → (Nat → Nat → Int) → Int
  | 0, _ => 1
  | n + 1, f => ((List.range (n + 1)).map fun k => sgn k * f 0 k * detF n (shf f k)).sum
theorem detF_congr : ∀ (n : Nat) (f g : Nat → Nat → Int), (∀ i j, i < n → j < n → f i j = g i j) → detF n f = detF n g
  | 0, _, _, _ => rfl
  | n + 1, f, g, h => by
    unfold detF
    congr 1
    apply List.map_congr_left
    intro k hk
    have hk := List.mem_range.1 hk
    rw [h 0 k (by omega) hk, detF_congr n (shf f k) (shf g k) fun i j hi hj => by
      unfold shf
      exact h _ _ (by omega) (by split <;> omega)]
theorem minor_sq (n k : Nat) (f : Nat → Nat → Int) (hk : k < n + 1) : minor (sq (n + 1) f) k = sq n (shf f k) := by
  unfold minor sq
  refine List.ext_getElem (by simp) fun i h1 h2 => ?_
  simp only [List.getElem_map, List.getElem_tail, List.getElem_range]
  refine List.ext_getElem (by simp [List.length_eraseIdx, hk]) fun j h3 h4 => ?_
  rw [List.getElem_eraseIdx]
  simp only [List.getElem_map, List.getElem_range]
  unfold shf
  split <;> rfl
theorem detR_sq : ∀ (n : Nat) (f : Nat → Nat → Int), detR n (sq n f) = detF n f
  | 0, _ => rfl
  | n + 1, f => by
    unfold detR detF
    congr 1
    apply List.map_congr_left
    intro k hk
    have hk := List.mem_range.1 hk
    have e : mAt (sq (n + 1) f) 0 k = f 0 k := by
      unfold mAt
      rw [List.getD_eq_getElem?_getD, List.getD_eq_getElem?_getD, sq_row _ _ _ (by omega)]
      simp [hk]
    rw [minor_sq n k f hk, detR_sq n _, e]
/-! Polynomials -/
def mev (x : Nat → Int) : List Nat → Int
  | [] => 1
  | v :: l => x v * mev x l
def pev (x : Nat → Int) : List (Int × List Nat) → Int
  | [] => 0
  | t :: p => t.1 * mev x t.2 + pev x p
def mul1 (t : Int × List Nat) (p : List (Int × List Nat)) : List (Int × List Nat) := p.map fun s => (t.1 * s.1, t.2 ++ s.2)
def pmul (p q : List (Int × List Nat)) : List (Int × List Nat) := p.flatMap fun t => mul1 t q
theorem mev_app (x : Nat → Int) : ∀ l m, mev x (l ++ m) = mev x l * mev x m
  | [], m => by simp [mev]
  | v :: l, m => by simp only [List.cons_append, mev]; rw [mev_app x l m, Int.mul_assoc]
theorem pev_app (x : Nat → Int) : ∀ p q, pev x (p ++ q) = pev x p + pev x q
  | [], q => by simp [pev]
  | t :: p, q => by simp only [List.cons_append, pev]; rw [pev_app x p q, Int.add_assoc]
theorem pev_mul1 (x : Nat → Int) (t : Int × List Nat) : ∀ p, pev x (mul1 t p) = t.1 * mev x t.2 * pev x p
  | [] => by simp [mul1, pev]
  | s :: p => by
    have ih := pev_mul1 x t p
    unfold mul1 at ih ⊢
    simp only [List.map_cons, pev]
    rw [ih, mev_app, Int.mul_add]
    congr 1
    rw [Int.mul_assoc, Int.mul_assoc, Int.mul_left_comm s.1]
theorem pev_mul (x : Nat → Int) : ∀ p q, pev x (pmul p q) = pev x p * pev x q
  | [], q => by simp [pmul, pev]
  | t :: p, q => by
    have ih := pev_mul x p q
    unfold pmul at ih ⊢
    simp only [List.flatMap_cons, pev]
    rw [pev_app, pev_mul1, ih, Int.add_mul]
def detQ : Nat → (Nat → Nat → List (Int × List Nat)) → List (Int × List Nat)
  | 0, _ => [(1, [])]
  | n + 1, g => (List.range (n + 1)).flatMap fun k => mul1 (sgn k, []) (pmul (g 0 k) (detQ n fun i j => g (i + 1) (if j < k then j else j + 1)))
theorem pev_flat (x : Nat → Int) (h : Nat → List (Int × List Nat)) : ∀ l : List Nat, pev x (l.flatMap h) = (l.map fun k => pev x (h k)).sum
  | [] => rfl
  | k :: l => by rw [List.flatMap_cons, pev_app, pev_flat x h l]; simp
theorem pev_detQ (x : Nat → Int) : ∀ n g, pev x (detQ n g) = detF n fun i j => pev x (g i j)
  | 0, g => by simp [detQ, detF, pev, mev]
  | n + 1, g => by
    unfold detQ detF
    rw [pev_flat]
    congr 1
    apply List.map_congr_left
    intro k hk
    rw [pev_mul1, pev_mul, pev_detQ x n]
    simp only [mev, Int.mul_one]
    rw [Int.mul_assoc]
    rfl
/-- 0: less, 1: same, 2: greater. -/
def mcmp : List Nat → List Nat → Nat
  | [], [] => 1
  | [], _ :: _ => 0
  | _ :: _, [] => 2
  | a :: l, b :: m => if a.beq b then mcmp l m else if a.blt b then 0 else 2
theorem mcmp_eq : ∀ l m, mcmp l m = 1 → l = m
  | [], [], _ => rfl
  | [], _ :: _, h => by simp [mcmp] at h
  | _ :: _, [], h => by simp [mcmp] at h
  | a :: l, b :: m, h => by
    unfold mcmp at h
    split at h
    · rename_i e
      rw [Nat.eq_of_beq_eq_true e, mcmp_eq l m h]
    · split at h <;> cases h
def mrg : Nat → List (Int × List Nat) → List (Int × List Nat) → List (Int × List Nat)
  | 0, p, q => p ++ q
  | _ + 1, [], q => q
  | _ + 1, p, [] => p
  | n + 1, s :: p, t :: q => match mcmp s.2 t.2 with
    | 0 => s :: mrg n p (t :: q)
    | 1 => if s.1 + t.1 = 0 then mrg n p q else (s.1 + t.1, s.2) :: mrg n p q
    | _ => t :: mrg n (s :: p) q
theorem pev_mrg (x : Nat → Int) : ∀ n p q, pev x (mrg n p q) = pev x p + pev x q
  | 0, p, q => pev_app x p q
  | _ + 1, [], q => by simp [mrg, pev]
  | _ + 1, _ :: _, [] => by simp [mrg, pev]
  | n + 1, s :: p, t :: q => by
    unfold mrg
    split
    · simp only [pev]; rw [pev_mrg x n]; simp only [pev]; omega
    · rename_i e
      have e := mcmp_eq _ _ e
      split
      · rename_i h
        rw [pev_mrg x n]
        simp only [pev]
        rw [← e]
        have : s.1 * mev x s.2 + t.1 * mev x s.2 = 0 := by rw [← Int.add_mul, h, Int.zero_mul]
        omega
      · simp only [pev]
        rw [pev_mrg x n, Int.add_mul, ← e]
        omega
    · simp only [pev]; rw [pev_mrg x n]; simp only [pev]; omega
def srt : Nat → List (Int × List Nat) → List (Int × List Nat)
  | 0, p => p
  | n + 1, p => match p with
    | [] => []
    | [t] => [t]
    | p => mrg p.length (srt n (p.take (p.length / 2))) (srt n (p.drop (p.length / 2)))
theorem pev_srt (x : Nat → Int) : ∀ n p, pev x (srt n p) = pev x p
  | 0, _ => rfl
  | n + 1, p => by
    unfold srt
    split
    · rfl
    · rfl
    · rw [pev_mrg, pev_srt x n, pev_srt x n, ← pev_app, List.take_append_drop]
def ins1 (v : Nat) : List Nat → List Nat
  | [] => [v]
  | u :: l => if v.ble u then v :: u :: l else u :: ins1 v l
theorem mev_ins1 (x : Nat → Int) (v : Nat) : ∀ l, mev x (ins1 v l) = x v * mev x l
  | [] => rfl
  | u :: l => by
    unfold ins1
    split
    · rfl
    · simp only [mev]
      rw [mev_ins1 x v l, Int.mul_left_comm]
def srtM : List Nat → List Nat
  | [] => []
  | v :: l => ins1 v (srtM l)
theorem mev_srtM (x : Nat → Int) : ∀ l, mev x (srtM l) = mev x l
  | [] => rfl
  | v :: l => by unfold srtM; rw [mev_ins1, mev_srtM x l]; rfl
def mons (z : Int) (p : List (Int × List Nat)) : List (Int × List Nat) := p.map fun t => (z * t.1, srtM t.2)
theorem pev_mons (x : Nat → Int) (z : Int) : ∀ p, pev x (mons z p) = z * pev x p
  | [] => by simp [mons, pev]
  | t :: p => by
    have ih := pev_mons x z p
    unfold mons at ih ⊢
    simp only [List.map_cons, pev]
    rw [ih, mev_srtM, Int.mul_add, Int.mul_assoc]
def varQ (i j : Nat) : List (Int × List Nat) := [(1, [5 * i + j])]
def ctx (f : Nat → Nat → Int) (v : Nat) : Int := f (v / 5) (v % 5)
theorem pev_var (f : Nat → Nat → Int) (i j : Nat) (h : j < 5) : pev (ctx f) (varQ i j) = f i j := by
  simp only [varQ, pev, mev, ctx, Int.one_mul, Int.mul_one, Int.add_zero]
  rw [show (5 * i + j) / 5 = i by omega, show (5 * i + j) % 5 = j by omega]
def same (p q r : List (Int × List Nat)) : Bool := (srt 12 (mons 1 p ++ (mons (-1) q ++ mons (-1) r))).isEmpty
theorem same_eq {p q r : List (Int × List Nat)} (h : same p q r = true) (x : Nat → Int) : pev x p = pev x q + pev x r := by
  unfold same at h
  have e := pev_srt x 12 (mons 1 p ++ (mons (-1) q ++ mons (-1) r))
  rw [List.isEmpty_iff.1 h, pev_app, pev_app, pev_mons, pev_mons, pev_mons] at e
  simp only [pev] at e
  omega
/-! The identities -/
def lnk2 (f : Nat → Nat → Int) (l h : Nat) : Nat → Nat → Int := fun i j =>
  f i j + (if (i = l ∧ j = l) ∨ (i = h ∧ j = h) then 1 else if (i = l ∧ j = h) ∨ (i = h ∧ j = l) then -1 else 0)
def one2 (f : Nat → Nat → Int) (l h : Nat) : Nat → Nat → Int := fun i j =>
  if i = h ∨ j = h then (if i = j then 1 else 0) else if i = l ∧ j = l then f l l + (f l h + (f h l + f h h)) else if i = l then f l j + f h j else if j = l then f i l + f i h else f i j
def lnk1 (f : Nat → Nat → Int) (h : Nat) : Nat → Nat → Int := fun i j => f i j + (if i = h ∧ j = h then 1 else 0)
def one1 (f : Nat → Nat → Int) (h : Nat) : Nat → Nat → Int := fun i j => if i = h ∨ j = h then (if i = j then 1 else 0) else f i j
def lnk2Q (l h i j : Nat) : List (Int × List Nat) := varQ i j ++ (if (i = l ∧ j = l) ∨ (i = h ∧ j = h) then [(1, [])] else if (i = l ∧ j = h) ∨ (i = h ∧ j = l) then [(-1, [])] else [])
def one2Q (l h i j : Nat) : List (Int × List Nat) :=
  if i = h ∨ j = h then (if i = j then [(1, [])] else []) else if i = l ∧ j = l then varQ l l ++ (varQ l h ++ (varQ h l ++ varQ h h)) else if i = l then varQ l j ++ varQ h j else if j = l then varQ i l ++ varQ i h else varQ i j
def lnk1Q (h i j : Nat) : List (Int × List Nat) := varQ i j ++ (if i = h ∧ j = h then [(1, [])] else [])
def one1Q (h i j : Nat) : List (Int × List Nat) := if i = h ∨ j = h then (if i = j then [(1, [])] else []) else varQ i j
def chk2 (m : Nat) : Bool := (List.range m).all fun h => (List.range h).all fun l => same (detQ m (lnk2Q l h)) (detQ m varQ) (detQ m (one2Q l h))
def chk1 (m : Nat) : Bool := (List.range m).all fun h => same (detQ m (lnk1Q h)) (detQ m varQ) (detQ m (one1Q h))
theorem chk2_all : ∀ m, m < 6 → chk2 m = true := by decide +kernel
theorem chk1_all : ∀ m, m < 6 → chk1 m = true := by decide +kernel
theorem det_lnk2 (m : Nat) (hm : m < 6) (f : Nat → Nat → Int) {l h : Nat} (hl : l < h) (hh : h < m) : detF m (lnk2 f l h) = detF m f + detF m (one2 f l h) := by
  have c := chk2_all m hm
  unfold chk2 at c
  rw [List.all_eq_true] at c
  have c := c h (List.mem_range.2 hh)
  rw [List.all_eq_true] at c
  have c := same_eq (c l (List.mem_range.2 hl)) (ctx f)
  rw [pev_detQ, pev_detQ, pev_detQ] at c
  have e1 : detF m (lnk2 f l h) = detF m fun i j => pev (ctx f) (lnk2Q l h i j) := detF_congr m _ _ fun i j hi hj => by
    unfold lnk2 lnk2Q
    rw [pev_app, pev_var _ _ _ (by omega)]
    congr 1
    split
    · simp [pev, mev]
    · split <;> simp [pev, mev]
  have e2 : detF m f = detF m fun i j => pev (ctx f) (varQ i j) := detF_congr m _ _ fun i j hi hj => (pev_var f i j (by omega)).symm
  have e3 : detF m (one2 f l h) = detF m fun i j => pev (ctx f) (one2Q l h i j) := detF_congr m _ _ fun i j hi hj => by
    unfold one2 one2Q
    split
    · split <;> simp [pev, mev]
    · split
      · rw [pev_app, pev_app, pev_app, pev_var _ _ _ (by omega), pev_var _ _ _ (by omega), pev_var _ _ _ (by omega), pev_var _ _ _ (by omega)]
      · split
        · rw [pev_app, pev_var _ _ _ (by omega), pev_var _ _ _ (by omega)]
        · split
          · rw [pev_app, pev_var _ _ _ (by omega), pev_var _ _ _ (by omega)]
          · rw [pev_var _ _ _ (by omega)]
  rw [e1, e2, e3]
  exact c
theorem det_lnk1 (m : Nat) (hm : m < 6) (f : Nat → Nat → Int) {h : Nat} (hh : h < m) : detF m (lnk1 f h) = detF m f + detF m (one1 f h) := by
  have c := chk1_all m hm
  unfold chk1 at c
  rw [List.all_eq_true] at c
  have c := same_eq (c h (List.mem_range.2 hh)) (ctx f)
  rw [pev_detQ, pev_detQ, pev_detQ] at c
  have e1 : detF m (lnk1 f h) = detF m fun i j => pev (ctx f) (lnk1Q h i j) := detF_congr m _ _ fun i j hi hj => by
    unfold lnk1 lnk1Q
    rw [pev_app, pev_var _ _ _ (by omega)]
    congr 1
    split <;> simp [pev, mev]
  have e2 : detF m f = detF m fun i j => pev (ctx f) (varQ i j) := detF_congr m _ _ fun i j hi hj => (pev_var f i j (by omega)).symm
  have e3 : detF m (one1 f h) = detF m fun i j => pev (ctx f) (one1Q h i j) := detF_congr m _ _ fun i j hi hj => by
    unfold one1 one1Q
    split
    · split <;> simp [pev, mev]
    · rw [pev_var _ _ _ (by omega)]
  rw [e1, e2, e3]
  exact c
theorem sum_zeros : ∀ l : List Nat, (l.map fun _ => (0 : Int)).sum = 0
  | [] => rfl
  | _ :: l => by rw [List.map_cons, List.sum_cons, sum_zeros l]; rfl
/-- A matrix that has numbers on its diagonal alone, each 0 or 1. -/
theorem det_diag : ∀ (m : Nat) (d : Nat → Int), (∀ i, i < m → d i = 0 ∨ d i = 1) → detF m (fun i j => if i = j then d i else 0) = if ∀ i, i < m → d i = 1 then 1 else 0
  | 0, d, _ => by simp [detF]
  | m + 1, d, h => by
    have ih := det_diag m (fun i => d (i + 1)) fun i hi => h (i + 1) (by omega)
    have e : detF (m + 1) (fun i j => if i = j then d i else 0) = d 0 * detF m (fun i j => if i = j then d (i + 1) else 0) := by
      show ((List.range (m + 1)).map _).sum = _
      rw [List.range_succ_eq_map, List.map_cons, List.sum_cons, List.map_map]
      have z : ((List.range m).map ((fun k => sgn k * (if 0 = k then d 0 else 0) * detF m (shf (fun i j => if i = j then d i else 0) k)) ∘ Nat.succ)).sum = 0 := by
        rw [show ((List.range m).map ((fun k => sgn k * (if 0 = k then d 0 else 0) * detF m (shf (fun i j => if i = j then d i else 0) k)) ∘ Nat.succ)) = (List.range m).map (fun _ => (0 : Int)) from List.map_congr_left fun k _ => by simp]
        exact sum_zeros _
      rw [z]
      have e2 : detF m (shf (fun i j => if i = j then d i else 0) 0) = detF m (fun i j => if i = j then d (i + 1) else 0) := detF_congr _ _ _ fun i j _ _ => by simp [shf]
      rw [e2]
      simp [sgn]
    rw [e, ih]
    rcases h 0 (by omega) with h0 | h0
    · rw [h0, if_neg (show ¬ ∀ i, i < m + 1 → d i = 1 from fun hh => by have := hh 0 (by omega); omega)]
      simp
    · rw [h0]
      by_cases ha : ∀ i, i < m → d (i + 1) = 1
      · rw [if_pos ha, if_pos (fun i hi => by
          rcases i with _ | i
          · exact h0
          · exact ha i (by omega))]
        rfl
      · rw [if_neg ha, if_neg (fun hh => ha fun i hi => hh (i + 1) (by omega))]
        rfl
end Go.Proofs.Ytbjahideaonimaa
