/- Contracts of the reference's Parts, PartsMany, LoopsMany and what they call. -/
import Derived.Test.YtbjahideaonimaaParts
namespace Go.Proofs.Ytbjahideaonimaa
open Go.RowKit
set_option linter.all false
theorem one_oneCell (x : Int) : ∀ u ∈ [Value.int .i64 x], u.oneCell' = true := by
  intro u hu; simp at hu; subst hu; rfl
/-- A result that is a new slice of ints. -/
def FInts (w w' : World) (A : Option Addr) (l : List Int) : Prop := l ≠ [] → ∃ g, A = some ⟨g, 0, none⟩ ∧ w.heap.size ≤ g ∧ Ints w' g l
theorem FInts.reads {w w' : World} {A : Option Addr} {l : List Int} (h : FInts w w' A l) : IntsAt w' A l := fun hne => by
  obtain ⟨g, rfl, _, hi⟩ := h hne
  exact hi.reads hne
theorem FInts.of_own {w0 w : World} {base : Nat} {v : Value} {n : Nat} {l : List Int} (h : w.ownsRow base 3 1 v n (l.map (Value.int .i64))) (hb : w0.heap.size ≤ base) :
    ∃ A cap, v = .slice A l.length cap ∧ FInts w0 w A l := by
  obtain ⟨_, h | ⟨g, cap, rfl, hg, hi⟩⟩ := Ints.of_own h
  · obtain ⟨rfl, rfl⟩ := h
    exact ⟨none, 0, rfl, fun h => absurd rfl h⟩
  · exact ⟨_, cap, rfl, fun _ => ⟨g, rfl, by omega, hi⟩⟩
theorem one_new (w : World) (x : Value) (t : TypeId) : ∀ j u, [x][j]? = some u → (w.alloc (.cells #[x] t)).cell? ((⟨w.heap.size, 0, none⟩ : Addr).add j) = some u := by
  intro j u hj
  match j, hj with
  | 0, hj =>
    simp at hj
    subst hj
    simp [Addr.add]
  | j + 1, hj => simp at hj
set_option maxHeartbeats 1000000 in
theorem l1All_any (n : Nat) (w : World) (hn : n ≤ 1000) :
    Calls Try.prog 60 #[.int .i64 n] w fun r w' => ∃ A cap, r = .returned (.slice A n cap) ∧ FInts w w' A (ownL n) ∧ New w w' := by
  obtain ⟨i0, hi, hz, hs, hb⟩ := info_parts infoInt
  go_enter Try.func60, Try.ntmps60
  go_wp2_with fail
  go_loopw [4, 3] (fun i v wr => ∃ k : Nat, k ≤ n ∧ i = .int .i64 k ∧ wr.ownsRow w.heap.size 3 1 v k ((ownL k).map (Value.int .i64)) ∧ New w wr) (fun i _ _ => n - (intOf i).toNat)
  case atStart => exact ⟨0, Nat.zero_le _, rfl, World.ownsRow_made w #[] 0 (Nat.le_refl _) (by simp) rfl, (by repeat (first | with_reducible exact New.refl _ | with_reducible assumption | with_reducible refine New.alloc ?_ _ | with_reducible refine New.drewN ?_ _ | with_reducible refine New.drew ?_ | with_reducible refine New.setCell ?_ (by first | omega | (simp; done) | (simp; omega)) _ | with_reducible refine New.tail (by assumption) ?_))⟩
  case round =>
    obtain ⟨k, hk, rfl, hown, hw⟩ := hrel
    by_cases hlt : k < n
    · go_wp2_with (at_builtin; refine wpList_append_own _ rfl _ _ 68 rfl w.heap.size 3 i0 (.int .i64 0) 1 8 Try.underlying68 hi hz hs hb rfl (by decide) _ _ _ rfl (hown.alloc _) ⟨wr.heap.size, 0, none⟩ 1 1 [.int .i64 k] rfl rfl (one_new _ _ _) (one_oneCell _) (by unfold maxLen; omega) (by omega) (by have := hw.size; simp; omega) ?_; intro v' w1 hown' hgrow _)
      have hnew : New w w1 := (hw.alloc _).grown hgrow (fun j hj => (hown.lt j hj).1)
      go_wp2_with fail
      go_roundw
      case rel => exact ⟨k + 1, by omega, by go_num, by rw [ownL_succ, List.map_append]; exact hown', hnew⟩
      case measure => simp [intOf]; omega
    · obtain rfl : k = n := by omega
      go_wp2_with fail
      go_ret
      obtain ⟨A, cap, hv, hf⟩ := FInts.of_own (w0 := w) hown (Nat.le_refl _)
      rw [ownL_length] at hv
      subst hv
      exact ⟨A, cap, rfl, hf, hw⟩
set_option maxHeartbeats 2000000 in
theorem l1Parts_any (n : Nat) (A B : Option Addr) (cap capB : Nat) (L : List Lg) (use : List Int) (w : World) (hL : LegsAt w A L) (hU : IntsAt w B use) (hv : svB n L = true) (hu : ∀ i ∈ use, 0 ≤ i ∧ i < L.length) (hum : use.length ≤ 1000) :
    Calls Try.prog 59 #[.agg #[.int .i64 n, .slice A L.length cap], .slice B use.length capB] w fun r w' => ∃ g cp, r = .returned (.slice (some ⟨g, 0, none⟩) n cp) ∧ w.heap.size ≤ g ∧ Ints w' g (partsL n (pickL L use)) ∧ New w w' := by
  obtain ⟨i0, hi, hz, hs, hb⟩ := info_parts infoInt
  obtain ⟨b1, b2, b3, b4⟩ := svB_true hv
  have h1 : New w (w.alloc (Obj.cells #[.int .i64 n, .slice A L.length cap] 33)) := (by repeat (first | with_reducible exact New.refl _ | with_reducible assumption | with_reducible refine New.alloc ?_ _ | with_reducible refine New.drewN ?_ _ | with_reducible refine New.drew ?_ | with_reducible refine New.setCell ?_ (by first | omega | (simp; done) | (simp; omega)) _ | with_reducible refine New.tail (by assumption) ?_))
  have h2 := Has.new w #[.int .i64 n, .slice A L.length cap] 33
  have hL' := hL.keep h1
  have hU' := hU.keep h1
  have B4 := Lib.hid b4
  have HU := Lib.hid hu
  clear b4 hu
  go_enter Try.func59, Try.ntmps59
  go_upto_region 1 with fail
  generalize (w.alloc (Obj.cells #[.int .i64 n, .slice A L.length cap] 33)) = W0 at *
  have c2 := h2.cells2
  clear h2
  go_wp2_with fail
  go_loopw [6, 5] (fun i v wr => ∃ k : Nat, k ≤ n ∧ i = .int .i64 k ∧ wr.ownsRow W0.heap.size 3 1 v k ((ownL k).map (Value.int .i64)) ∧ New W0 wr) (fun i _ _ => n - (intOf i).toNat)
  case atStart => exact ⟨0, Nat.zero_le _, rfl, World.ownsRow_made W0 #[] 0 (Nat.le_refl _) (by simp) rfl, (by repeat (first | with_reducible exact New.refl _ | with_reducible assumption | with_reducible refine New.alloc ?_ _ | with_reducible refine New.drewN ?_ _ | with_reducible refine New.drew ?_ | with_reducible refine New.setCell ?_ (by first | omega | (simp; done) | (simp; omega)) _ | with_reducible refine New.tail (by assumption) ?_))⟩
  case round =>
    obtain ⟨k, hk, rfl, hown, hw⟩ := hrel
    by_cases hlt : k < n
    · go_wp2_with (at_builtin; refine wpList_append_own _ rfl _ _ 68 rfl W0.heap.size 3 i0 (.int .i64 0) 1 8 Try.underlying68 hi hz hs hb rfl (by decide) _ _ _ rfl (hown.alloc _) ⟨wr.heap.size, 0, none⟩ 1 1 [.int .i64 k] rfl rfl (one_new _ _ _) (one_oneCell _) (by unfold maxLen; omega) (by omega) (by have := hw.size; simp; omega) ?_; intro v' w1 hown' hgrow _)
      have hnew : New W0 w1 := (hw.alloc _).grown hgrow (fun j hj => (hown.lt j hj).1)
      go_wp2_with fail
      go_roundw
      case rel => exact ⟨k + 1, by omega, by go_num, by rw [ownL_succ, List.map_append]; exact hown', hnew⟩
      case measure => simp [intOf]; omega
    · obtain rfl : k = n := by omega
      have hn1 : k ≠ 0 := by omega
      obtain ⟨-, h0 | ⟨g, cp, hv5, hg, hI⟩⟩ := Ints.of_own hown
      · exact absurd (congrArg List.length h0.2) (by rw [ownL_length]; exact hn1)
      rw [ownL_length] at hv5
      subst hv5
      clear hown
      go_wp2_with fail
      have hn1' : (1 : Int) ≤ (k : Int) := by omega
      clear hn1
      have Hv := Lib.hid hv
      clear hv
      go_loopw [7, 8, 9, 10] (fun i _ _ _ wo => ∃ m : Nat, m ≤ use.length ∧ i = .int .i64 m ∧ New W0 wo ∧ Ints wo g (partsL k (pickL L (use.take m)))) (fun i _ _ _ _ => use.length - (intOf i).toNat)
      case atStart => exact ⟨0, Nat.zero_le _, rfl, hw, hI⟩
      case round =>
        obtain ⟨m, hm, rfl, hwo, hp⟩ := hrel
        obtain ⟨wo, hwo'⟩ : ∃ wo : World, wo = wr := ⟨_, rfl⟩
        by_cases hml : m < use.length
        · obtain ⟨bU, oU, iu, hB, hiu, cu⟩ := (hU'.keep hwo).at_ hml
          obtain ⟨hi0, hi1⟩ := HU.out _ (List.getElem_mem hml)
          rw [hiu] at hi0 hi1
          obtain ⟨j, rfl⟩ := Int.eq_ofNat_of_zero_le hi0
          have hjL : j < L.length := by omega
          have hf := ok_facts (B4.out L[j] (List.getElem_mem hjL))
          obtain ⟨b, off, f, tt, e, nn, u, hA, hg', cl⟩ := (hL'.keep hwo).at_ hjL
          have Hpick := Lib.hid (pickL_ok (L := L) (use := use) (k := m) (i := j) (g := L[j]) (by rw [List.getElem?_eq_getElem hml, hiu]) (List.getElem?_eq_getElem hjL))
          rw [hg'] at hf Hpick
          simp only at hf
          obtain ⟨hf1, hf2, hf3, hf4, -⟩ := hf
          obtain ⟨f, rfl⟩ := Int.eq_ofNat_of_zero_le hf1
          obtain ⟨tt, rfl⟩ := Int.eq_ofNat_of_zero_le hf3
          subst hA hB
          obtain ⟨l, hl⟩ : ∃ l, l = partsL k (pickL L (use.take m)) := ⟨_, rfl⟩
          have hll : l.length = k := by rw [hl]; exact partsL_length _ _
          rw [← hl] at hp
          have Hl := Lib.hid hl.symm
          have hlx : l[f]? = some (lab l f) := by
            have := lab_get (l := l) (a := (f : Int)) (by omega) (by rw [hll]; omega)
            simpa using this
          have hly : l[tt]? = some (lab l tt) := by
            have := lab_get (l := l) (a := (tt : Int)) (by omega) (by rw [hll]; omega)
            simpa using this
          obtain ⟨x, hx⟩ : ∃ x, lab l f = x := ⟨_, rfl⟩
          obtain ⟨y, hy⟩ : ∃ y, lab l tt = y := ⟨_, rfl⟩
          rw [hx] at hlx
          rw [hy] at hly
          have cx := hp.cell hlx
          have cy := hp.cell hly
          have Hx := Lib.hid hx
          have Hy := Lib.hid hy
          have Hll := Lib.hid hll
          have hlen1 : l.length ≤ k := by omega
          have hlen2 : k ≤ l.length := by omega
          have hml' : (m : Int) < (use.length : Int) := by omega
          have hm0 : (0 : Int) ≤ (m : Int) := by omega
          have hj0 : (0 : Int) ≤ (j : Int) := by omega
          have hf0 : (0 : Int) ≤ (f : Int) := by omega
          have ht0 : (0 : Int) ≤ (tt : Int) := by omega
          clear hiu hg' hl hll hx hy hlx hly hI hL hL' hU hU' hwo'
          by_cases hxy : x < y
          · go_wp2_with fail
            go_quiet (fail)
            go_wp2_with fail
            go_quiet (fail)
            go_wp2_with fail
            clear cu cl cx cy c2
            go_loopw [10] (fun i wi => ∃ q : Nat, q ≤ k ∧ i = .int .i64 q ∧ New W0 wi ∧ Ints wi g (mixL l x y q)) (fun i _ => k - (intOf i).toNat)
            case atStart => exact ⟨0, Nat.zero_le _, rfl, (by repeat (first | with_reducible exact New.refl _ | with_reducible assumption | with_reducible refine New.alloc ?_ _ | with_reducible refine New.drewN ?_ _ | with_reducible refine New.drew ?_ | with_reducible refine New.setCell ?_ (by first | omega | (simp; done) | (simp; omega)) _ | with_reducible refine New.tail (by assumption) ?_)), by rw [mixL_zero]; exact hp.keep (by repeat (first | with_reducible exact New.refl _ | with_reducible assumption | with_reducible refine New.alloc ?_ _ | with_reducible refine New.drewN ?_ _ | with_reducible refine New.drew ?_ | with_reducible refine New.setCell ?_ (by first | omega | (simp; done) | (simp; omega)) _ | with_reducible refine New.tail (by assumption) ?_))⟩
            case round =>
              obtain ⟨q, hq, rfl, hwi, hpi⟩ := hrel
              by_cases hql : q < k
              · have hql' : q < l.length := by omega
                obtain ⟨z, hz⟩ : ∃ z, l[q] = z := ⟨_, rfl⟩
                have c3 := hpi.cell ((mixL_get l x y q hql').trans ((List.getElem?_eq_getElem hql').trans (by rw [hz])))
                have f3 := hpi.free
                have Hz := Lib.hid hz
                clear hz
                by_cases hzh : z = y
                · have hb1 : (z == y) = true := by simp [hzh]
                  have Hs := Lib.hid (mixL_set l x y q hql' (by rw [Hz.out]; exact hzh))
                  clear hzh
                  go_wp2_with fail
                  go_roundw
                  case rel => exact ⟨q + 1, by omega, by go_num, hwi.setCell (p := ⟨g, q, none⟩) hg _, by rw [← Hs.out]; exact hpi.set q _⟩
                  case measure => simp [intOf]; omega
                · have hb1 : (z == y) = false := by simp [hzh]
                  have Hs := Lib.hid (mixL_skip l x y q hql' (by rw [Hz.out]; exact hzh))
                  clear hzh
                  go_wp2_with fail
                  go_roundw
                  case rel => exact ⟨q + 1, by omega, by go_num, hwi, by rw [← Hs.out]; exact hpi⟩
                  case measure => simp [intOf]; omega
              · obtain rfl : q = k := by omega
                go_wp2_with fail
                go_roundw
                case rel => exact ⟨m + 1, by omega, by go_num, hwi, by rw [Hpick.out, partsL_snoc]; unfold joinL; rw [Hl.out, Hx.out, Hy.out, Int.min_eq_left (by omega), Int.max_eq_right (by omega), ← mixL_all, Hll.out]; exact hpi⟩
                case measure => simp [intOf]; omega
          by_cases hyx' : y < x
          · clear hxy
            go_wp2_with fail
            go_quiet (fail)
            go_wp2_with fail
            go_quiet (fail)
            go_wp2_with fail
            clear cu cl cx cy c2
            go_loopw [10] (fun i wi => ∃ q : Nat, q ≤ k ∧ i = .int .i64 q ∧ New W0 wi ∧ Ints wi g (mixL l y x q)) (fun i _ => k - (intOf i).toNat)
            case atStart => exact ⟨0, Nat.zero_le _, rfl, (by repeat (first | with_reducible exact New.refl _ | with_reducible assumption | with_reducible refine New.alloc ?_ _ | with_reducible refine New.drewN ?_ _ | with_reducible refine New.drew ?_ | with_reducible refine New.setCell ?_ (by first | omega | (simp; done) | (simp; omega)) _ | with_reducible refine New.tail (by assumption) ?_)), by rw [mixL_zero]; exact hp.keep (by repeat (first | with_reducible exact New.refl _ | with_reducible assumption | with_reducible refine New.alloc ?_ _ | with_reducible refine New.drewN ?_ _ | with_reducible refine New.drew ?_ | with_reducible refine New.setCell ?_ (by first | omega | (simp; done) | (simp; omega)) _ | with_reducible refine New.tail (by assumption) ?_))⟩
            case round =>
              obtain ⟨q, hq, rfl, hwi, hpi⟩ := hrel
              by_cases hql : q < k
              · have hql' : q < l.length := by omega
                obtain ⟨z, hz⟩ : ∃ z, l[q] = z := ⟨_, rfl⟩
                have c3 := hpi.cell ((mixL_get l y x q hql').trans ((List.getElem?_eq_getElem hql').trans (by rw [hz])))
                have f3 := hpi.free
                have Hz := Lib.hid hz
                clear hz
                by_cases hzh : z = x
                · have hb1 : (z == x) = true := by simp [hzh]
                  have Hs := Lib.hid (mixL_set l y x q hql' (by rw [Hz.out]; exact hzh))
                  clear hzh
                  go_wp2_with fail
                  go_roundw
                  case rel => exact ⟨q + 1, by omega, by go_num, hwi.setCell (p := ⟨g, q, none⟩) hg _, by rw [← Hs.out]; exact hpi.set q _⟩
                  case measure => simp [intOf]; omega
                · have hb1 : (z == x) = false := by simp [hzh]
                  have Hs := Lib.hid (mixL_skip l y x q hql' (by rw [Hz.out]; exact hzh))
                  clear hzh
                  go_wp2_with fail
                  go_roundw
                  case rel => exact ⟨q + 1, by omega, by go_num, hwi, by rw [← Hs.out]; exact hpi⟩
                  case measure => simp [intOf]; omega
              · obtain rfl : q = k := by omega
                go_wp2_with fail
                go_roundw
                case rel => exact ⟨m + 1, by omega, by go_num, hwi, by rw [Hpick.out, partsL_snoc]; unfold joinL; rw [Hl.out, Hx.out, Hy.out, Int.min_eq_right (by omega), Int.max_eq_left (by omega), ← mixL_all, Hll.out]; exact hpi⟩
                case measure => simp [intOf]; omega
          obtain rfl : x = y := by omega
          clear hxy hyx'
          go_wp2_with fail
          go_quiet (fail)
          go_wp2_with fail
          go_quiet (fail)
          go_wp2_with fail
          clear cu cl cx cy c2
          go_loopw [10] (fun i wi => ∃ q : Nat, q ≤ k ∧ i = .int .i64 q ∧ New W0 wi ∧ Ints wi g (mixL l x x q)) (fun i _ => k - (intOf i).toNat)
          case atStart => exact ⟨0, Nat.zero_le _, rfl, (by repeat (first | with_reducible exact New.refl _ | with_reducible assumption | with_reducible refine New.alloc ?_ _ | with_reducible refine New.drewN ?_ _ | with_reducible refine New.drew ?_ | with_reducible refine New.setCell ?_ (by first | omega | (simp; done) | (simp; omega)) _ | with_reducible refine New.tail (by assumption) ?_)), by rw [mixL_zero]; exact hp.keep (by repeat (first | with_reducible exact New.refl _ | with_reducible assumption | with_reducible refine New.alloc ?_ _ | with_reducible refine New.drewN ?_ _ | with_reducible refine New.drew ?_ | with_reducible refine New.setCell ?_ (by first | omega | (simp; done) | (simp; omega)) _ | with_reducible refine New.tail (by assumption) ?_))⟩
          case round =>
            obtain ⟨q, hq, rfl, hwi, hpi⟩ := hrel
            by_cases hql : q < k
            · have hql' : q < l.length := by omega
              obtain ⟨z, hz⟩ : ∃ z, l[q] = z := ⟨_, rfl⟩
              have c3 := hpi.cell ((mixL_get l x x q hql').trans ((List.getElem?_eq_getElem hql').trans (by rw [hz])))
              have f3 := hpi.free
              have Hz := Lib.hid hz
              clear hz
              by_cases hzh : z = x
              · have hb1 : (z == x) = true := by simp [hzh]
                have Hs := Lib.hid (mixL_set l x x q hql' (by rw [Hz.out]; exact hzh))
                clear hzh
                go_wp2_with fail
                go_roundw
                case rel => exact ⟨q + 1, by omega, by go_num, hwi.setCell (p := ⟨g, q, none⟩) hg _, by rw [← Hs.out]; exact hpi.set q _⟩
                case measure => simp [intOf]; omega
              · have hb1 : (z == x) = false := by simp [hzh]
                have Hs := Lib.hid (mixL_skip l x x q hql' (by rw [Hz.out]; exact hzh))
                clear hzh
                go_wp2_with fail
                go_roundw
                case rel => exact ⟨q + 1, by omega, by go_num, hwi, by rw [← Hs.out]; exact hpi⟩
                case measure => simp [intOf]; omega
            · obtain rfl : q = k := by omega
              go_wp2_with fail
              go_roundw
              case rel => exact ⟨m + 1, by omega, by go_num, hwi, by rw [Hpick.out, partsL_snoc]; unfold joinL; rw [Hl.out, Hx.out, Hy.out, Int.min_self, Int.max_self, ← mixL_all, Hll.out]; exact hpi⟩
              case measure => simp [intOf]; omega
        · obtain rfl : m = use.length := by omega
          go_wp2_with fail
          go_ret
          exact ⟨g, cp, rfl, by have := h1.size; omega, by rw [List.take_length] at hp; exact hp, h1.trans hwo⟩
theorem l1Parts_m (n m : Nat) (A B : Option Addr) (cap capB : Nat) (L : List Lg) (use : List Int) (w : World) (hL : LegsAt w A L) (hU : IntsAt w B use) (hv : svB n L = true) (hu : ∀ i ∈ use, 0 ≤ i ∧ i < L.length) (hlm : use.length = m) (hum : m ≤ 1000) :
    Calls Try.prog 59 #[.agg #[.int .i64 n, .slice A L.length cap], .slice B m capB] w fun r w' => ∃ g cp, r = .returned (.slice (some ⟨g, 0, none⟩) n cp) ∧ w.heap.size ≤ g ∧ Ints w' g (partsL n (pickL L use)) ∧ New w w' := by
  subst hlm
  exact l1Parts_any n A B cap capB L use w hL hU hv hu hum
set_option maxHeartbeats 1000000 in
theorem specParts_no (st : Int) (A : Option Addr) (cap : Nat) (L : List Lg) (w : World) (hL : LegsAt w A L) (hm : L.length ≤ 1099511627776) (hv : svB st L = false) :
    Calls Try.prog 54 #[.agg #[.int .i64 st, .slice A L.length cap]] w fun r w' => ∃ A cp, r = .returned (.slice A 0 cp) ∧ New w w' := by
  have h1 : New w (w.alloc (Obj.cells #[.int .i64 st, .slice A L.length cap] 33)) := (by repeat (first | with_reducible exact New.refl _ | with_reducible assumption | with_reducible refine New.alloc ?_ _ | with_reducible refine New.drewN ?_ _ | with_reducible refine New.drew ?_ | with_reducible refine New.setCell ?_ (by first | omega | (simp; done) | (simp; omega)) _ | with_reducible refine New.tail (by assumption) ?_))
  have hL' := hL.keep h1
  go_enter Try.func54, Try.ntmps54
  go_wp2_with (go_at_call 24; refine (specSurveyValid_any _ _ _ _ _ hL' hm).mono ?_; rintro e w1 ⟨rfl, hn⟩)
  go_ret
  exact ⟨_, _, rfl, h1.trans (by repeat (first | with_reducible exact New.refl _ | with_reducible assumption | with_reducible refine New.alloc ?_ _ | with_reducible refine New.drewN ?_ _ | with_reducible refine New.drew ?_ | with_reducible refine New.setCell ?_ (by first | omega | (simp; done) | (simp; omega)) _ | with_reducible refine New.tail (by assumption) ?_))⟩
set_option maxHeartbeats 1000000 in
theorem specParts_ok (n : Nat) (A : Option Addr) (cap : Nat) (L : List Lg) (w : World) (hL : LegsAt w A L) (hv : svB n L = true) :
    Calls Try.prog 54 #[.agg #[.int .i64 n, .slice A L.length cap]] w fun r w' => ∃ g cp, r = .returned (.slice (some ⟨g, 0, none⟩) n cp) ∧ w.heap.size ≤ g ∧ Ints w' g (partsL n L) ∧ New w w' := by
  obtain ⟨b1, b2, b3, -⟩ := svB_true hv
  have h1 : New w (w.alloc (Obj.cells #[.int .i64 n, .slice A L.length cap] 33)) := (by repeat (first | with_reducible exact New.refl _ | with_reducible assumption | with_reducible refine New.alloc ?_ _ | with_reducible refine New.drewN ?_ _ | with_reducible refine New.drew ?_ | with_reducible refine New.setCell ?_ (by first | omega | (simp; done) | (simp; omega)) _ | with_reducible refine New.tail (by assumption) ?_))
  have h2 := Has.new w #[.int .i64 n, .slice A L.length cap] 33
  have hL' := hL.keep h1
  go_enter Try.func54, Try.ntmps54
  go_upto_region 1 with fail
  generalize (w.alloc (Obj.cells #[.int .i64 n, .slice A L.length cap] 33)) = W0 at *
  have c2 := h2.cells2
  clear h2
  go_wp2_with (go_at_call 24; refine (specSurveyValid_any _ _ _ _ _ hL' (by omega)).mono ?_; rintro e w1 ⟨rfl, hn⟩; have hk : New W0 w1 := New.tail hn (by repeat (first | with_reducible exact New.refl _ | with_reducible assumption | with_reducible refine New.alloc ?_ _ | with_reducible refine New.drewN ?_ _ | with_reducible refine New.drew ?_ | with_reducible refine New.setCell ?_ (by first | omega | (simp; done) | (simp; omega)) _ | with_reducible refine New.tail (by assumption) ?_)))
  go_region_held3 (fun w' => New W0 w') ((repeat (first | with_reducible exact New.refl _ | with_reducible assumption | with_reducible refine New.alloc ?_ _ | with_reducible refine New.drewN ?_ _ | with_reducible refine New.drew ?_ | with_reducible refine New.setCell ?_ (by first | omega | (simp; done) | (simp; omega)) _ | with_reducible refine New.tail (by assumption) ?_))) (first | (go_at_call 60; refine (l1All_any _ _ (by omega)).mono ?_; rintro e w2 ⟨B, cpB, rfl, hF, hn2⟩) | (go_at_call 59; refine (l1Parts_m _ _ _ _ _ _ _ _ _ (hL'.keep (by repeat (first | with_reducible exact New.refl _ | with_reducible assumption | with_reducible refine New.alloc ?_ _ | with_reducible refine New.drewN ?_ _ | with_reducible refine New.drew ?_ | with_reducible refine New.setCell ?_ (by first | omega | (simp; done) | (simp; omega)) _ | with_reducible refine New.tail (by assumption) ?_))) hF.reads hv (fun i hi => ownL_mem hi) (ownL_length _) (by omega)).mono ?_; rintro e w3 ⟨g, cp, rfl, hg, hI, hn3⟩))
  go_wp2_with fail
  go_ret
  exact ⟨g, cp, rfl, by have := h1.size; have := hk.size; have := hn2.size; simp at *; omega, by rw [pickL_all] at hI; exact hI, h1.trans (by repeat (first | with_reducible exact New.refl _ | with_reducible assumption | with_reducible refine New.alloc ?_ _ | with_reducible refine New.drewN ?_ _ | with_reducible refine New.drew ?_ | with_reducible refine New.setCell ?_ (by first | omega | (simp; done) | (simp; omega)) _ | with_reducible refine New.tail (by assumption) ?_))⟩
set_option maxHeartbeats 1000000 in
theorem specPartsMany_any (st : Int) (A : Option Addr) (cap : Nat) (L : List Lg) (w : World) (hL : LegsAt w A L) (hm : L.length ≤ 1099511627776) :
    Calls Try.prog 50 #[.agg #[.int .i64 st, .slice A L.length cap]] w fun r w' => r = .returned (.int .i64 (pmZ st L)) ∧ New w w' := by
  have h1 : New w (w.alloc (Obj.cells #[.int .i64 st, .slice A L.length cap] 33)) := (by repeat (first | with_reducible exact New.refl _ | with_reducible assumption | with_reducible refine New.alloc ?_ _ | with_reducible refine New.drewN ?_ _ | with_reducible refine New.drew ?_ | with_reducible refine New.setCell ?_ (by first | omega | (simp; done) | (simp; omega)) _ | with_reducible refine New.tail (by assumption) ?_))
  have h2 := Has.new w #[.int .i64 st, .slice A L.length cap] 33
  have hL' := hL.keep h1
  cases hv : svB st L
  · go_enter Try.func50, Try.ntmps50
    go_wp2_with (go_at_call 24; refine (specSurveyValid_any _ _ _ _ _ hL' hm).mono ?_; rintro e w1 ⟨rfl, hn⟩)
    go_ret
    exact ⟨ret_int (pmZ_no hv).symm, h1.trans hn⟩
  · obtain ⟨n, rfl⟩ := svB_nat hv
    have hb := svB_true hv
    have hb2 := hb.2.1
    clear hb
    go_enter Try.func50, Try.ntmps50
    go_upto_region 1 with fail
    generalize (w.alloc (Obj.cells #[.int .i64 n, .slice A L.length cap] 33)) = W0 at *
    have c2 := h2.cells2
    clear h2
    go_wp2_with (first | (go_at_call 24; refine (specSurveyValid_any _ _ _ _ _ hL' hm).mono ?_; rintro e w1 ⟨rfl, hn⟩; have hk : New W0 w1 := New.tail hn (by repeat (first | with_reducible exact New.refl _ | with_reducible assumption | with_reducible refine New.alloc ?_ _ | with_reducible refine New.drewN ?_ _ | with_reducible refine New.drew ?_ | with_reducible refine New.setCell ?_ (by first | omega | (simp; done) | (simp; omega)) _ | with_reducible refine New.tail (by assumption) ?_))) | (go_at_call 54; refine (specParts_ok _ _ _ _ _ (hL'.keep (by repeat (first | with_reducible exact New.refl _ | with_reducible assumption | with_reducible refine New.alloc ?_ _ | with_reducible refine New.drewN ?_ _ | with_reducible refine New.drew ?_ | with_reducible refine New.setCell ?_ (by first | omega | (simp; done) | (simp; omega)) _ | with_reducible refine New.tail (by assumption) ?_))) hv).mono ?_; rintro e w2 ⟨g, cp, rfl, hg, hI, hn2⟩; have hk2 : New W0 w2 := New.tail hn2 (by assumption)))
    have hPm := Lib.hid (pmZ_ok hv)
    have hlen := partsL_length n L
    obtain ⟨l, hl⟩ : ∃ l, l = partsL n L := ⟨_, rfl⟩
    rw [← hl] at hI hlen
    have Hl := Lib.hid hl.symm
    clear hl
    have hlen1 : l.length ≤ n := by omega
    have hlen2 : n ≤ l.length := by omega
    clear hlen
    go_loopw [5, 3] (fun i m wr => ∃ k : Nat, k ≤ n ∧ i = .int .i64 k ∧ m = .int .i64 (cntL l k : Nat) ∧ New w2 wr) (fun i _ _ => n - (intOf i).toNat)
    case atStart => exact ⟨0, Nat.zero_le _, rfl, rfl, New.refl _⟩
    case round =>
      obtain ⟨k, hk', rfl, rfl, hw⟩ := hrel
      by_cases hlt : k < n
      · have hlt' : k < l.length := by omega
        obtain ⟨x, hx⟩ : ∃ x, l[k] = x := ⟨_, rfl⟩
        have hc := fun w' hn => hI.cell ((List.getElem?_eq_getElem hlt').trans (by rw [hx])) w' (hw.trans hn)
        have hcl := cntL_le l k
        have Hs := Lib.hid (cntL_succ l k hlt')
        have Hx := Lib.hid hx
        clear hx
        by_cases hz : x = (k : Int)
        · have hb1 : (x == (k : Int)) = true := by simp [hz]
          have Hz := Lib.hid hz
          clear hz
          go_wp2_with fail
          go_roundw
          case rel => exact ⟨k + 1, by omega, by go_num, by rw [Hs.out, Hx.out, if_pos Hz.out]; go_num, hw⟩
          case measure => simp [intOf]; omega
        · have hb1 : (x == (k : Int)) = false := by simp [hz]
          have Hz := Lib.hid hz
          clear hz
          go_wp2_with fail
          go_roundw
          case rel => exact ⟨k + 1, by omega, by go_num, by rw [Hs.out, Hx.out, if_neg Hz.out]; go_num, hw⟩
          case measure => simp [intOf]; omega
      · obtain rfl : k = n := by omega
        go_wp2_with fail
        go_ret
        exact ⟨ret_int (by rw [hPm.out, Hl.out]), h1.trans (New.tail hw hk2)⟩
/-- What Parts returns. -/
def prL (st : Int) (L : List Lg) : List Int := if svB st L then partsL st.toNat L else []
theorem prL_no {st : Int} {L : List Lg} (h : svB st L = false) : prL st L = [] := by simp [prL, h]
theorem prL_ok {n : Nat} {L : List Lg} (h : svB n L = true) : prL n L = partsL n L := by simp [prL, h]
theorem prL_le (st : Int) (L : List Lg) : (prL st L).length ≤ 6 := by
  unfold prL
  split
  · rename_i h; have := svB_true h; rw [partsL_length]; omega
  · simp
theorem FInts.mk {w w' : World} {g : Nat} {l : List Int} (hg : w.heap.size ≤ g) (h : Ints w' g l) : FInts w w' (some ⟨g, 0, none⟩) l := fun _ => ⟨g, rfl, hg, h⟩
theorem FInts.nil {w w' : World} {A : Option Addr} : FInts w w' A [] := fun h => absurd rfl h
theorem specParts_any (st : Int) (A : Option Addr) (cap : Nat) (L : List Lg) (w : World) (hL : LegsAt w A L) (hm : L.length ≤ 1099511627776) :
    Calls Try.prog 54 #[.agg #[.int .i64 st, .slice A L.length cap]] w fun r w' => ∃ B cp, r = .returned (.slice B (prL st L).length cp) ∧ FInts w w' B (prL st L) ∧ New w w' := by
  cases hv : svB st L
  · rw [prL_no hv]
    exact (specParts_no st A cap L w hL hm hv).mono fun e w' ⟨A', cp, h1, h2⟩ => ⟨_, _, h1, FInts.nil, h2⟩
  · obtain ⟨n, rfl⟩ := svB_nat hv
    rw [prL_ok hv, partsL_length]
    exact (specParts_ok n A cap L w hL hv).mono fun e w' ⟨g, cp, h1, h2, h3, h4⟩ => ⟨_, _, h1, FInts.mk h2 h3, h4⟩
end Go.Proofs.Ytbjahideaonimaa
