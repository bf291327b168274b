/- How many parts there are, in plain Lean. -/
import Derived.Test.YtbjahideaonimaaPlain
namespace Go.Proofs.Ytbjahideaonimaa
set_option linter.all false
theorem cntL_own (n : Nat) : ∀ k, k ≤ n → cntL (ownL n) k = k
  | 0, _ => rfl
  | k + 1, h => by
    have hl : k < (ownL n).length := by rw [ownL_length]; omega
    have hg := ownL_get n k (by omega)
    rw [List.getElem?_eq_getElem hl] at hg
    rw [cntL_succ _ _ hl, cntL_own n k (by omega), if_pos (Option.some.inj hg)]
theorem cntL_jn {l : List Int} {lo hi : Nat} (hlo : l[lo]? = some (lo : Int)) (hhi : l[hi]? = some (hi : Int)) (hne : lo ≠ hi) : ∀ k, k ≤ l.length → cntL (jn l lo hi) k + (if hi < k then 1 else 0) = cntL l k
  | 0, _ => rfl
  | k + 1, h => by
    have hk : k < l.length := by omega
    have hk' : k < (jn l lo hi).length := by rw [jn_length]; exact hk
    have ih := cntL_jn hlo hhi hne k (by omega)
    have hj := jn_get l lo hi k hk
    rw [List.getElem?_eq_getElem hk'] at hj
    have hj := Option.some.inj hj
    rw [cntL_succ _ _ hk', cntL_succ _ _ hk, hj]
    by_cases e : l[k] = (hi : Int)
    · rw [if_pos e]
      by_cases ek : k = hi
      · subst ek
        rw [if_neg (show ¬ (lo : Int) = (k : Int) by omega), if_pos e, if_pos (show k < k + 1 by omega)]
        rw [if_neg (show ¬ k < k by omega)] at ih
        omega
      · have e1 : ¬ (lo : Int) = (k : Int) := fun hc => by
          have : lo = k := by omega
          subst this
          rw [List.getElem?_eq_getElem hk] at hlo
          have := Option.some.inj hlo
          omega
        rw [if_neg e1, e, if_neg (show ¬ (hi : Int) = (k : Int) by omega)]
        by_cases hh : hi < k
        · rw [if_pos (show hi < k + 1 by omega)]; rw [if_pos hh] at ih; omega
        · rw [if_neg (show ¬ hi < k + 1 by omega)]; rw [if_neg hh] at ih; omega
    · rw [if_neg e]
      have ek : k ≠ hi := fun hc => by
        subst hc
        rw [List.getElem?_eq_getElem hk] at hhi
        exact e (Option.some.inj hhi)
      by_cases hh : hi < k
      · rw [if_pos (show hi < k + 1 by omega)]; rw [if_pos hh] at ih; omega
      · rw [if_neg (show ¬ hi < k + 1 by omega)]; rw [if_neg hh] at ih; omega
end Go.Proofs.Ytbjahideaonimaa
