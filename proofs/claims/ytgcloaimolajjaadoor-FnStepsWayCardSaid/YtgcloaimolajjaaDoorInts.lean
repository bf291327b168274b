/- Slices of ints in memory; contracts of ownParts, joinParts, countParts and of the laws' helpers on them. -/
import Derived.Test.YtgcloaimolajjaaDoorSurv
namespace Go.Proofs.YtgcloaimolajjaaDoor
open Go.RowKit
set_option linter.all false
/-- Only block g, and what is new, has turned. -/
def Only (g : Nat) (w w' : World) : Prop := w.grownBy w' (some g)
theorem Only.refl (g : Nat) (w : World) : Only g w w := ⟨rfl, rfl, rfl, Nat.le_refl _, fun _ _ _ => rfl⟩
theorem Only.trans {g : Nat} {a b c : World} (h : Only g a b) (k : Only g b c) : Only g a c :=
  ⟨k.os.trans h.os, k.tape.trans h.tape, k.output.trans h.output, Nat.le_trans h.size k.size, fun i hi hne => (k.block i (Nat.lt_of_lt_of_le hi h.size) hne).trans (h.block i hi hne)⟩
theorem Only.of_new {g : Nat} {a b : World} (h : New a b) : Only g a b := ⟨h.os, h.tape, h.output, h.size, fun i hi _ => h.block i hi⟩
theorem Only.drew {g : Nat} {a b : World} (h : Only g a b) : Only g a b.drew := ⟨h.os, h.tape, h.output, h.size, h.block⟩
theorem Only.alloc {g : Nat} {a b : World} (h : Only g a b) (o : Obj) : Only g a (b.alloc o) := h.trans (Only.of_new ((New.refl b).alloc o))
theorem Only.setCell {g : Nat} {a b : World} (h : Only g a b) {p : Addr} (hp : p.block = g) (u : Value) : Only g a (b.setCell p u) :=
  h.trans ⟨rfl, rfl, rfl, by simp [World.setCell], fun i _ hne => Below.heap_setCell b p u i (fun e => hne (by rw [e, hp]))⟩
theorem New.only {a w w' : World} {g : Nat} (h : New a w) (ho : Only g w w') (hg : a.heap.size ≤ g) : New a w' := New.grown h ho (fun k hk => by cases hk; exact hg)
theorem Has.only {W w' : World} {b g : Nat} {cs : Array Value} {T : TypeId} (h : Has W b cs T) (ho : Only g W w') (hne : b ≠ g) : Has w' b cs T := (ho.block b h.lt (by simpa using hne)).trans h
theorem LegBlk.only {W w' : World} {b g : Nat} {L : List Lg} (h : LegBlk W b L) (ho : Only g W w') (hne : b ≠ g) : LegBlk w' b L := by
  obtain ⟨cs, h1, h2⟩ := h
  exact ⟨cs, h1.only ho hne, h2⟩
/-- Only writes to blocks from B on: what came before B is as it was. -/
theorem Only.below {g : Nat} {w w' : World} (ho : Only g w w') {B : Nat} (hg : B ≤ g) (hB : B ≤ w.heap.size) : Below B w w' := ⟨ho.os, ho.tape, ho.output, ho.size, fun k hk => ho.block k (by omega) (by intro e; cases e; omega)⟩

/-- The first cells of block g are these ints. -/
def Ints (w : World) (g : Nat) (l : List Int) : Prop := ∃ cs : Array Value, Has w g cs 3 ∧ l.length ≤ cs.size ∧ ∀ (k : Nat) (x : Int), l[k]? = some x → cs[k]? = some (.int .i64 x)
theorem Ints.keep {w w' : World} {g : Nat} {l : List Int} (h : Ints w g l) (hn : New w w') : Ints w' g l := by
  obtain ⟨cs, h1, h2⟩ := h
  exact ⟨cs, h1.keep hn, h2⟩
theorem Ints.lt {w : World} {g : Nat} {l : List Int} (h : Ints w g l) : g < w.heap.size := by
  obtain ⟨cs, h1, h2⟩ := h
  exact h1.lt
theorem Ints.far {w : World} {g : Nat} {l : List Int} (h : Ints w g l) {p : Addr} (hp : g ≠ p.block) (v : Value) : Ints (w.setCell p v) g l := by
  obtain ⟨cs, h1, h2⟩ := h
  exact ⟨cs, h1.far hp v, h2⟩
theorem Ints.only {W w' : World} {b g : Nat} {l : List Int} (h : Ints W b l) (ho : Only g W w') (hne : b ≠ g) : Ints w' b l := by
  obtain ⟨cs, h1, h2⟩ := h
  exact ⟨cs, h1.only ho hne, h2⟩
theorem Ints.grown {W w' : World} {b : Nat} {l : List Int} {row : Option Nat} (h : Ints W b l) (ho : W.grownBy w' row) (hne : row ≠ some b) : Ints w' b l := by
  obtain ⟨cs, h1, h2⟩ := h
  exact ⟨cs, (ho.block b h1.lt (fun e => hne e.symm)).trans h1, h2⟩
theorem Ints.cell {w : World} {g : Nat} {l : List Int} (h : Ints w g l) {k : Nat} {x : Int} (hk : l[k]? = some x) : ∀ w', New w w' → w'.cell? ⟨g, k, none⟩ = some (.int .i64 x) := by
  obtain ⟨cs, h1, h2, h3⟩ := h
  intro w' hn
  rw [h1.cells k w' hn, h3 k x hk]
theorem Ints.free {w : World} {g : Nat} {l : List Int} (h : Ints w g l) : ∀ (k : Nat) (w' : World), New w w' → w'.frozen? ⟨g, k, none⟩ = false := by
  obtain ⟨cs, h1, h2, h3⟩ := h
  exact fun k => h1.frees k
theorem Ints.set {w : World} {g : Nat} {l : List Int} (h : Ints w g l) (k : Nat) (x : Int) : Ints (w.setCell ⟨g, k, none⟩ (.int .i64 x)) g (l.set k x) := by
  obtain ⟨cs, h1, h2, h3⟩ := h
  refine ⟨_, h1.set k _, by simpa using h2, fun j y hj => ?_⟩
  rw [List.getElem?_set] at hj
  rw [Array.getElem?_setIfInBounds]
  by_cases hkj : k = j
  · subst hkj
    rw [if_pos rfl] at hj
    rw [if_pos rfl]
    split at hj
    · simp at hj; subst hj; rw [if_pos (by omega)]
    · cases hj
  · rw [if_neg hkj] at hj
    rw [if_neg hkj]
    exact h3 j y hj
theorem Ints.of_own {w : World} {base : Nat} {v : Value} {n : Nat} {l : List Int} (h : w.ownsRow base 3 1 v n (l.map (Value.int .i64))) :
    n = l.length ∧ ((v = .slice none 0 0 ∧ l = []) ∨ ∃ g cap, v = .slice (some ⟨g, 0, none⟩) l.length cap ∧ base ≤ g ∧ Ints w g l) := by
  obtain ⟨h1, h2⟩ := h
  have hn : n = l.length := by simpa using h1.symm
  subst hn
  refine ⟨rfl, ?_⟩
  rcases h2 with ⟨e, h0⟩ | ⟨g, cap, cur, e, hg, hh, hc, hm, hs, ht⟩
  · exact .inl ⟨e, List.eq_nil_of_length_eq_zero h0⟩
  · refine .inr ⟨g, cap, e, hg, cur, hh, by rw [hs]; omega, fun k x hk => ?_⟩
    have hkl := (List.getElem?_eq_some_iff.1 hk).1
    have e1 : (cur.toList.take (l.length * 1))[k]? = some (.int .i64 x) := by rw [ht, List.getElem?_map, hk]; rfl
    rw [List.getElem?_take, if_pos (by omega)] at e1
    simpa using e1
theorem own_new {w w' : World} {base : Nat} {e : TypeId} {size n : Nat} {v : Value} {xs : List Value} (h : w.ownsRow base e size v n xs) (hn : New w w') : w'.ownsRow base e size v n xs :=
  h.kept (row := none) ⟨hn.os, hn.tape, hn.output, hn.size, fun k hk _ => hn.block k hk⟩ (by
    rcases h.2 with ⟨e, _⟩ | ⟨g, cap, cur, e, _⟩
    · exact .inl (by rw [e]; rfl)
    · exact .inr (by rw [e]; simp [Value.ownBlock]))
/-- The slice at A reads as these ints. -/
def IntsAt (w : World) (A : Option Addr) (l : List Int) : Prop :=
  l ≠ [] → ∃ b off, A = some ⟨b, off, none⟩ ∧ b < w.heap.size ∧ ∀ (k : Nat) (x : Int), l[k]? = some x → w.cell? ⟨b, off + k, none⟩ = some (.int .i64 x)
theorem Ints.reads {w : World} {g : Nat} {l : List Int} (h : Ints w g l) : IntsAt w (some ⟨g, 0, none⟩) l :=
  fun _ => ⟨g, 0, rfl, h.lt, fun k x hk => by rw [Nat.zero_add]; exact h.cell hk w (New.refl w)⟩
theorem IntsAt.keep {w w' : World} {A : Option Addr} {l : List Int} (h : IntsAt w A l) (hn : New w w') : IntsAt w' A l := fun hne => by
  obtain ⟨b, off, e, hb, hc⟩ := h hne
  exact ⟨b, off, e, Nat.lt_of_lt_of_le hb hn.size, fun k x hk => (New.cell hn (p := ⟨b, off + k, none⟩) hb).trans (hc k x hk)⟩
theorem IntsAt.at_ {w : World} {A : Option Addr} {l : List Int} (h : IntsAt w A l) {k : Nat} (hk : k < l.length) : ∃ b off x, A = some ⟨b, off, none⟩ ∧ l[k] = x ∧ ∀ w', New w w' → w'.cell? ⟨b, off + k, none⟩ = some (.int .i64 x) := by
  obtain ⟨b, off, e, hb, hc⟩ := h (by intro h0; subst h0; simp at hk)
  exact ⟨b, off, _, e, rfl, fun w' hn => (New.cell hn (p := ⟨b, off + k, none⟩) hb).trans (hc k _ (List.getElem?_eq_getElem hk))⟩
theorem infoInt : (Tryd.prog.info? 3).map (fun i => (i.zero, i.size, i.bytes)) = some (some (.int .i64 0), 1, 8) := by kernel_rfl
theorem makeInts (n : Nat) (hn : n ≤ 1099511627776) : ∀ w : World, (Instr.makeSlice 30 (.int .i64 (n : Int)) (.int .i64 (n : Int))).run Tryd.prog w =
    .ok (.slice (some ⟨w.heap.size, 0, none⟩) n n) (w.alloc (.cells (madeCells #[.int .i64 0] n) 3)) := by
  intro w
  obtain ⟨i0, hi, hz, hs, hb⟩ := info_parts infoInt
  have h := run_make (P := Tryd.prog) w 30 3 i0 _ Tryd.underlying30 hi hz .i64 .i64 n n (by omega) (by omega) (by rw [hb]; omega) (by omega)
  rw [hs, Nat.mul_one] at h
  simp only [Int.toNat_natCast] at h
  exact h
theorem Ints.made (w : World) (n : Nat) : Ints (w.alloc (.cells (madeCells #[.int .i64 0] n) 3)) w.heap.size (List.replicate n 0) :=
  ⟨_, Has.new _ _ _, by rw [size_madeCells]; simp, fun k x hk => by
    rw [List.getElem?_replicate] at hk
    split at hk
    · rename_i hkn
      simp at hk; subst hk
      rw [← Array.getElem?_toList, toList_madeCells_one, List.getElem?_replicate, if_pos hkn]
    · cases hk⟩
/-- The first k places hold their own numbers. -/
def ownTo (n k : Nat) : List Int := (ownL n).take k ++ List.replicate (n - k) 0
theorem ownTo_zero (n : Nat) : ownTo n 0 = List.replicate n 0 := by simp [ownTo]
theorem ownTo_all (n : Nat) : ownTo n n = ownL n := by unfold ownTo; rw [List.take_of_length_le (by rw [ownL_length]; exact Nat.le_refl _)]; simp
theorem ownTo_len (n k : Nat) (h : k ≤ n) : (ownTo n k).length = n := by simp [ownTo, ownL_length]; omega
theorem ownTo_set (n k : Nat) (h : k < n) : (ownTo n k).set k (k : Int) = ownTo n (k + 1) := by
  have e : n - k = (n - (k + 1)) + 1 := by omega
  unfold ownTo
  rw [e, List.replicate_succ, List.take_add_one, ownL_get n k h, List.set_append_right _ _ (by simp [ownL_length]; omega)]
  have e2 : k - ((ownL n).take k).length = 0 := by simp [ownL_length]; omega
  rw [e2]
  simp
theorem ownParts_any (n : Nat) (w : World) (hn : n ≤ 1000) :
    Calls Tryd.prog 66 #[.int .i64 n] w fun r w' => ∃ g, r = .returned (.slice (some ⟨g, 0, none⟩) n n) ∧ w.heap.size ≤ g ∧ Ints w' g (ownL n) ∧ New w w' := by
  have hmk := makeInts n (by omega)
  go_enter Tryd.func66, Tryd.ntmps66
  go_wp2_with fail
  go_loopw [9, 4] (fun i _ wr => ∃ k : Nat, k ≤ n ∧ i = .int .i64 k ∧ New w wr ∧ Ints wr w.heap.size (ownTo n k)) (fun i _ _ => n - (intOf i).toNat)
  case atStart => exact ⟨0, Nat.zero_le _, rfl, (by repeat (first | with_reducible exact New.refl _ | with_reducible assumption | with_reducible refine New.alloc ?_ _ | with_reducible refine New.drewN ?_ _ | with_reducible refine New.drew ?_ | with_reducible refine New.setCell ?_ (by first | omega | (simp; done) | (simp; omega)) _ | with_reducible refine New.tail (by assumption) ?_)), by rw [ownTo_zero]; exact Ints.made _ _⟩
  case round =>
    obtain ⟨k, hk, rfl, hw, hi⟩ := hrel
    by_cases hlt : k < n
    · have Hset := Lib.hid (ownTo_set n k hlt)
      obtain ⟨x, hx⟩ : ∃ x, (ownTo n k)[k]? = some x := ⟨_, List.getElem?_eq_getElem (by rw [ownTo_len _ _ (by omega)]; exact hlt)⟩
      have c1 := hi.cell hx
      have f1 := hi.free
      clear hx hmk
      go_wp2_with fail
      go_roundw
      case rel => exact ⟨k + 1, by omega, by go_num, hw.setCell (p := ⟨w.heap.size, k, none⟩) (Nat.le_refl _) _, by rw [← Hset.out]; exact hi.set k _⟩
      case measure => simp [intOf]; omega
    · obtain rfl : k = n := by omega
      go_wp2_with fail
      go_ret
      exact ⟨_, rfl, Nat.le_refl _, by rw [← ownTo_all]; exact hi, hw⟩
set_option maxHeartbeats 1000000 in
theorem joinParts_any (g cap : Nat) (l : List Int) (a b : Nat) (w : World) (h : Ints w g l) (ha : a < l.length) (hb : b < l.length) (hl : l.length ≤ 1000) :
    Calls Tryd.prog 67 #[.slice (some ⟨g, 0, none⟩) l.length cap, .int .i64 a, .int .i64 b] w fun r w' => r = .returned (.bool (lab l a != lab l b)) ∧ Only g w w' ∧ Ints w' g (joinL l a b) := by
  obtain ⟨x, hx⟩ : ∃ x, l[a]? = some x := ⟨_, List.getElem?_eq_getElem ha⟩
  obtain ⟨y, hy⟩ : ∃ y, l[b]? = some y := ⟨_, List.getElem?_eq_getElem hb⟩
  have c1 := h.cell hx
  have c2 := h.cell hy
  have ha' : (a : Int) < (l.length : Int) := by omega
  have hb' : (b : Int) < (l.length : Int) := by omega
  have ha0 : (0 : Int) ≤ (a : Int) := by omega
  have hb0 : (0 : Int) ≤ (b : Int) := by omega
  have Ha := Lib.hid hx
  have Hb := Lib.hid hy
  clear hx hy
  have Hla : Hid (lab l a = x) := by unfold lab; rw [Int.toNat_natCast, List.getD_eq_getElem?_getD, Ha.out]; rfl
  have Hlb : Hid (lab l b = y) := by unfold lab; rw [Int.toNat_natCast, List.getD_eq_getElem?_getD, Hb.out]; rfl
  by_cases hxy : x < y
  · have hd : (x == y) = false := by simp; omega
    go_enter Tryd.func67, Tryd.ntmps67
    go_wp2_with fail
    go_quiet (fail)
    go_wp2_with fail
    go_loopw [34, 9, 10] (fun i _ _ wr => ∃ k : Nat, k ≤ l.length ∧ i = .int .i64 k ∧ Only g w wr ∧ Ints wr g (mixL l x y k)) (fun i _ _ _ => l.length - (intOf i).toNat)
    case atStart => exact ⟨0, Nat.zero_le _, rfl, Only.of_new ((New.refl w).drewN nq), by rw [mixL_zero]; exact h.keep ((New.refl w).drewN nq)⟩
    case round =>
      obtain ⟨k, hk, rfl, hw, hi⟩ := hrel
      by_cases hlt : k < l.length
      · obtain ⟨z, hz⟩ : ∃ z, l[k] = z := ⟨_, rfl⟩
        have c3 := hi.cell ((mixL_get l x y k hlt).trans ((List.getElem?_eq_getElem hlt).trans (by rw [hz])))
        have f3 := hi.free
        have Hz := Lib.hid hz
        have hk0 : (0 : Int) ≤ (k : Int) := by omega
        clear hz c1 c2
        by_cases hzh : z = y
        · have hb1 : (z == y) = true := by simp [hzh]
          have Hs := Lib.hid (mixL_set l x y k hlt (by rw [Hz.out]; exact hzh))
          clear hzh
          go_wp2_with fail
          go_roundw
          case rel => exact ⟨k + 1, by omega, by go_num, hw.setCell rfl _, by rw [← Hs.out]; exact hi.set k _⟩
          case measure => simp [intOf]; omega
        · have hb1 : (z == y) = false := by simp [hzh]
          have Hs := Lib.hid (mixL_skip l x y k hlt (by rw [Hz.out]; exact hzh))
          clear hzh
          go_wp2_with fail
          go_roundw
          case rel => exact ⟨k + 1, by omega, by go_num, hw, by rw [← Hs.out]; exact hi⟩
          case measure => simp [intOf]; omega
      · obtain rfl : k = l.length := by omega
        go_wp2_with fail
        go_ret
        exact ⟨ret_bool (by rw [Hla.out, Hlb.out]; simp; omega), hw, by unfold joinL; rw [Hla.out, Hlb.out, Int.min_eq_left (by omega), Int.max_eq_right (by omega), ← mixL_all]; exact hi⟩
  by_cases hyx : y < x
  · have hd : (x == y) = false := by simp; omega
    go_enter Tryd.func67, Tryd.ntmps67
    go_wp2_with fail
    go_quiet (fail)
    go_wp2_with fail
    go_loopw [34, 9, 10] (fun i _ _ wr => ∃ k : Nat, k ≤ l.length ∧ i = .int .i64 k ∧ Only g w wr ∧ Ints wr g (mixL l y x k)) (fun i _ _ _ => l.length - (intOf i).toNat)
    case atStart => exact ⟨0, Nat.zero_le _, rfl, Only.of_new ((New.refl w).drewN nq), by rw [mixL_zero]; exact h.keep ((New.refl w).drewN nq)⟩
    case round =>
      obtain ⟨k, hk, rfl, hw, hi⟩ := hrel
      by_cases hlt : k < l.length
      · obtain ⟨z, hz⟩ : ∃ z, l[k] = z := ⟨_, rfl⟩
        have c3 := hi.cell ((mixL_get l y x k hlt).trans ((List.getElem?_eq_getElem hlt).trans (by rw [hz])))
        have f3 := hi.free
        have Hz := Lib.hid hz
        have hk0 : (0 : Int) ≤ (k : Int) := by omega
        clear hz c1 c2
        by_cases hzh : z = x
        · have hb1 : (z == x) = true := by simp [hzh]
          have Hs := Lib.hid (mixL_set l y x k hlt (by rw [Hz.out]; exact hzh))
          clear hzh
          go_wp2_with fail
          go_roundw
          case rel => exact ⟨k + 1, by omega, by go_num, hw.setCell rfl _, by rw [← Hs.out]; exact hi.set k _⟩
          case measure => simp [intOf]; omega
        · have hb1 : (z == x) = false := by simp [hzh]
          have Hs := Lib.hid (mixL_skip l y x k hlt (by rw [Hz.out]; exact hzh))
          clear hzh
          go_wp2_with fail
          go_roundw
          case rel => exact ⟨k + 1, by omega, by go_num, hw, by rw [← Hs.out]; exact hi⟩
          case measure => simp [intOf]; omega
      · obtain rfl : k = l.length := by omega
        go_wp2_with fail
        go_ret
        exact ⟨ret_bool (by rw [Hla.out, Hlb.out]; simp; omega), hw, by unfold joinL; rw [Hla.out, Hlb.out, Int.min_eq_right (by omega), Int.max_eq_left (by omega), ← mixL_all]; exact hi⟩
  obtain rfl : x = y := by omega
  go_enter Tryd.func67, Tryd.ntmps67
  go_wp2_with fail
  go_quiet (fail)
  go_wp2_with fail
  go_ret
  have e : lab l a = lab l b := Hla.out.trans Hlb.out.symm
  exact ⟨ret_bool (by rw [e]; simp), Only.of_new ((New.refl w).drewN nq), by rw [joinL_same e]; exact h.keep ((New.refl w).drewN nq)⟩
theorem joinParts_m (g cap m : Nat) (l : List Int) (a b : Nat) (w : World) (hlm : l.length = m) (h : Ints w g l) (ha : a < m) (hb : b < m) (hl : m ≤ 1000) :
    Calls Tryd.prog 67 #[.slice (some ⟨g, 0, none⟩) m cap, .int .i64 a, .int .i64 b] w fun r w' => r = .returned (.bool (lab l a != lab l b)) ∧ Only g w w' ∧ Ints w' g (joinL l a b) := by
  subst hlm
  exact joinParts_any g cap l a b w h ha hb hl
set_option maxHeartbeats 1000000 in
theorem countParts_any (A : Option Addr) (cap : Nat) (l : List Int) (w : World) (h : IntsAt w A l) (hl : l.length ≤ 1000) :
    Calls Tryd.prog 74 #[.slice A l.length cap] w fun r w' => r = .returned (.int .i64 (cntL l l.length : Nat)) ∧ New w w' := by
  go_enter Tryd.func74, Tryd.ntmps74
  go_wp2_with fail
  go_loopw [8, 4, 5, 3] (fun i _ _ m wr => ∃ k : Nat, k ≤ l.length ∧ i = .int .i64 k ∧ m = .int .i64 (cntL l k : Nat) ∧ New w wr) (fun i _ _ _ _ => l.length - (intOf i).toNat)
  case atStart => exact ⟨0, Nat.zero_le _, rfl, rfl, New.refl _⟩
  case round =>
    obtain ⟨k, hk, rfl, rfl, hw⟩ := hrel
    by_cases hlt : k < l.length
    · obtain ⟨b, off, x, hA, hx, hc⟩ := (h.keep hw).at_ hlt
      subst hA
      have hcl := cntL_le l k
      have Hs := Lib.hid (cntL_succ l k hlt)
      have Hx := Lib.hid hx
      clear hx
      by_cases hz : x = (k : Int)
      · have hb1 : (x == (k : Int)) = true := by simp [hz]
        have Hz := Lib.hid hz
        clear hz
        go_wp2_with fail
        go_roundw
        case rel => exact ⟨k + 1, by omega, by go_num, by rw [Hs.out, Hx.out, if_pos Hz.out]; go_num, hw⟩
        case measure => simp [intOf]; omega
      · have hb1 : (x == (k : Int)) = false := by simp [hz]
        have Hz := Lib.hid hz
        clear hz
        go_wp2_with fail
        go_roundw
        case rel => exact ⟨k + 1, by omega, by go_num, by rw [Hs.out, Hx.out, if_neg Hz.out]; go_num, hw⟩
        case measure => simp [intOf]; omega
    · obtain rfl : k = l.length := by omega
      go_wp2_with fail
      go_ret
      exact ⟨rfl, hw⟩
theorem countParts_m (A : Option Addr) (cap m : Nat) (l : List Int) (w : World) (hlm : l.length = m) (h : IntsAt w A l) (hl : m ≤ 1000) :
    Calls Tryd.prog 74 #[.slice A m cap] w fun r w' => r = .returned (.int .i64 (cntL l m : Nat)) ∧ New w w' := by
  subst hlm
  exact countParts_any A cap l w h hl
end Go.Proofs.YtgcloaimolajjaaDoor
