/- The reader of drawn numbers: pick, odd, l20Open. -/
import Derived.Test.YtmdeekojioeomaaDoorFrame
import Derived.Test.YtmdeekojioeomaaDoorInts
import Derived.Laws.BitsAllLaws
namespace Go.Proofs.YtmdeekojioeomaaDoor
open Go.RowKit
set_option linter.all false
/-- The bytes of a slice lie in a block other than rb. -/
def ByteAt (w : World) (rb : Nat) (A : Option Addr) (n : Nat) : Prop :=
  0 < n → ∃ b off, A = some ⟨b, off, none⟩ ∧ b < rb ∧ b < w.heap.size ∧ ∀ k, k < n → ∃ x : Nat, x ≤ 255 ∧ w.cell? ⟨b, off + k, none⟩ = some (.int .u8 x)
theorem ByteAt.only {w w' : World} {rb : Nat} {A : Option Addr} {n : Nat} (h : ByteAt w rb A n) (ho : Only rb w w') : ByteAt w' rb A n := fun hn => by
  obtain ⟨b, off, e, h1, h2, h3⟩ := h hn
  refine ⟨b, off, e, h1, Nat.lt_of_lt_of_le h2 ho.size, fun k hk => ?_⟩
  obtain ⟨x, hx, hc⟩ := h3 k hk
  refine ⟨x, hx, ?_⟩
  unfold World.cell? at hc ⊢
  rw [ho.block b h2 (by simp; omega)]
  exact hc
/-- The reader in block rb: it has read at most b times. -/
def Rd (w : World) (rb b : Nat) : Prop := ∃ (p : Nat) (A : Option Addr) (n cap : Nat), p ≤ b ∧ n ≤ 2000 ∧ Has w rb #[.slice A n cap, .int .i64 p] 68 ∧ ByteAt w rb A n
theorem Rd.only {w w' : World} {rb g b : Nat} (h : Rd w rb b) (ho : Only g w w') (hne : rb < g) : Rd w' rb b := by
  obtain ⟨p, A, n, cap, hp, hn, hh, hb⟩ := h
  refine ⟨p, A, n, cap, hp, hn, hh.only ho (by omega), fun h0 => ?_⟩
  obtain ⟨b, off, e, h1, h2, h3⟩ := hb h0
  refine ⟨b, off, e, h1, Nat.lt_of_lt_of_le h2 ho.size, fun k hk => ?_⟩
  obtain ⟨x, hx, hc⟩ := h3 k hk
  refine ⟨x, hx, ?_⟩
  unfold World.cell? at hc ⊢
  rw [ho.block b h2 (by simp; omega)]
  exact hc
theorem Rd.far {w : World} {rb b : Nat} (h : Rd w rb b) {p : Addr} (hp : rb < p.block) (v : Value) : Rd (w.setCell p v) rb b := h.only ((Only.refl p.block w).setCell rfl v) hp
theorem Rd.keep {w w' : World} {rb b : Nat} (h : Rd w rb b) (hn : New w w') : Rd w' rb b := by
  obtain ⟨p, A, n, cap, hp, hl, hh, hb⟩ := h
  exact ⟨p, A, n, cap, hp, hl, hh.keep hn, hb.only (Only.of_new hn)⟩
theorem Rd.lt {w : World} {rb b : Nat} (h : Rd w rb b) : rb < w.heap.size := by
  obtain ⟨p, A, n, cap, hp, hl, hh, hb⟩ := h
  exact hh.lt
theorem Rd.le {w : World} {rb b c : Nat} (h : Rd w rb b) (hc : b ≤ c) : Rd w rb c := by
  obtain ⟨p, A, n, cap, hp, hl, hh, hb⟩ := h
  exact ⟨p, A, n, cap, by omega, hl, hh, hb⟩
theorem xor_i64 (a b : Nat) (ha : a < 4611686018427387904) (hb : b < 4611686018427387904) : ∃ c : Nat, c < 4611686018427387904 ∧ bits .xor .i64 (a : Int) (b : Int) = (c : Int) := by
  have hx : a ^^^ b < 2 ^ 62 := Nat.xor_lt_two_pow (by omega) (by omega)
  refine ⟨a ^^^ b, by omega, ?_⟩
  show IntKind.i64.wrap ((BitVec.ofInt 64 (a : Int) ^^^ BitVec.ofInt 64 (b : Int)).toNat : Int) = _
  rw [BitVec.toNat_xor, ofInt_u64 a (by omega), ofInt_u64 b (by omega), IntKind.wrap_i64]
  omega
set_option maxHeartbeats 2000000 in
theorem pick_any (rb b : Nat) (n : Int) (w : World) (hr : Rd w rb b) (hb : b ≤ 1099511627776) (hn : n ≤ 1099511627776) :
    Calls Tryd.prog 35 #[.pointer (some ⟨rb, 0, none⟩), .int .i64 n] w fun r w' => ∃ v : Int, r = .returned (.int .i64 v) ∧ 0 ≤ v ∧ (1 ≤ n → v < n) ∧ Only rb w w' ∧ Rd w' rb (b + 1) := by
  obtain ⟨p, A, len, cap, hp, hl, hh, hby⟩ := hr
  have ho : Only rb w (w.setCell ⟨rb, 1, none⟩ (.int .i64 ((p : Int) + 1))) := (Only.refl rb w).setCell (p := ⟨rb, 1, none⟩) rfl _
  have h2 : Has (w.setCell ⟨rb, 1, none⟩ (.int .i64 ((p : Int) + 1))) rb #[.slice A len cap, .int .i64 ((p : Int) + 1)] 68 := by simpa using hh.set 1 (.int .i64 ((p : Int) + 1))
  obtain ⟨c1, c2, c3, c4⟩ := hh.at2
  have hby2 := hby.only ho
  clear hby hh
  go_enter Tryd.func35, Tryd.ntmps35
  go_upto_region 2 with fail
  generalize w.setCell ⟨rb, 1, none⟩ (.int .i64 ((p : Int) + 1)) = W at *
  have HRD : Hid (∀ w', New W w' → Only rb w w' ∧ Rd w' rb (b + 1)) := fun w' hn => ⟨ho.trans (Only.of_new hn), Rd.keep ⟨p + 1, A, len, cap, by omega, hl, by exact_mod_cast h2, hby2⟩ hn⟩
  have c := h2.cells2
  clear c1 c2 c3 c4 ho h2
  by_cases hn1 : n < 1
  · clear hby2
    go_wp2_with fail
    go_ret
    exact ⟨0, rfl, by omega, by omega, HRD.out _ (New.refl _)⟩
  by_cases hz : len = 0
  · subst hz
    clear hby2
    go_wp2_with fail
    go_ret
    exact ⟨0, rfl, by omega, by omega, HRD.out _ (New.refl _)⟩
  have hz0 : ((len : Int) == 0) = false := by simp; omega
  obtain ⟨bb, off, rfl, hne, hbl, hby⟩ := hby2 (by omega)
  by_cases hk : p < len
  · obtain ⟨x, hx, hcx⟩ := hby p hk
    have hk' : (p : Int) < (len : Int) := by omega
    have hx0 : (0 : Int) ≤ (x : Int) := by omega
    have hp0 : (0 : Int) ≤ (p : Int) := by omega
    clear hby
    go_wp2_with fail
    go_ret
    have hmod := Int.emod_nonneg (x : Int) (show n ≠ 0 by omega)
    have hlt := Int.emod_lt_of_pos (x : Int) (show 0 < n by omega)
    exact ⟨_, rfl, hmod, hlt, HRD.out _ (New.refl _)⟩
  · have hk' : ¬ (p : Int) < (len : Int) := by omega
    have hp0 : (0 : Int) ≤ (p : Int) := by omega
    have hln : len ≠ 0 := hz
    obtain ⟨i1, hi1⟩ : ∃ i, p % len = i := ⟨_, rfl⟩
    obtain ⟨i2, hi2⟩ : ∃ i, (p * 7 + 3) % len = i := ⟨_, rfl⟩
    obtain ⟨q, hq⟩ : ∃ i, p / len = i := ⟨_, rfl⟩
    have hqp : q ≤ p := by rw [← hq]; exact Nat.div_le_self _ _
    have hl1 : i1 < len := by rw [← hi1]; exact Nat.mod_lt _ (by omega)
    have hl2 : i2 < len := by rw [← hi2]; exact Nat.mod_lt _ (by omega)
    have e1 : (p : Int) % (len : Int) = (i1 : Int) := by rw [← hi1]; exact (Int.natCast_emod p len).symm
    have e2 : ((p : Int) * 7 + 3) % (len : Int) = (i2 : Int) := by rw [← hi2]; exact_mod_cast rfl
    have e3 : (p : Int) / (len : Int) = (q : Int) := by rw [← hq]; exact (Int.natCast_ediv p len).symm
    obtain ⟨x, hx, hcx⟩ := hby i1 hl1
    obtain ⟨y, hy, hcy⟩ := hby i2 hl2
    have hx0 : (0 : Int) ≤ (x : Int) := by omega
    have hy0 : (0 : Int) ≤ (y : Int) := by omega
    have hi10 : (0 : Int) ≤ (i1 : Int) := by omega
    have hi20 : (0 : Int) ≤ (i2 : Int) := by omega
    have hi11 : (i1 : Int) < (len : Int) := by omega
    have hi21 : (i2 : Int) < (len : Int) := by omega
    obtain ⟨z, hz⟩ : ∃ z : Nat, x * 131 + y * 1117 + p * 29 + q * 53 = z := ⟨_, rfl⟩
    have hzb : z < 4611686018427387904 := by omega
    have e4 : (x : Int) * 131 + (y : Int) * 1117 + (p : Int) * 29 + (q : Int) * 53 = (z : Int) := by omega
    obtain ⟨u, hu, hxor⟩ := xor_i64 z (z / 64) hzb (by omega)
    have hd : (z : Int) / 64 = ((z / 64 : Nat) : Int) := by omega
    rw [← hd] at hxor
    have k1 := fun w' (hn : New W w') => (New.cell hn (p := ⟨bb, off + i1, none⟩) hbl).trans hcx
    have k2 := fun w' (hn : New W w') => (New.cell hn (p := ⟨bb, off + i2, none⟩) hbl).trans hcy
    clear hby hi1 hi2 hq hz hd hcx hcy
    go_wp2_with fail
    go_quiet (fail)
    go_wp2_with fail
    go_ret
    have hmod := Int.emod_nonneg (u : Int) (show n ≠ 0 by omega)
    have hlt := Int.emod_lt_of_pos (u : Int) (show 0 < n by omega)
    exact ⟨_, rfl, hmod, fun _ => hlt, HRD.out _ ((New.refl _).drewN _)⟩
theorem Only.setNew {g : Nat} {a b : World} (h : Only g a b) {p : Addr} (hp : a.heap.size ≤ p.block) (u : Value) : Only g a (b.setCell p u) :=
  ⟨h.os, h.tape, h.output, by simp only [World.size_setCell]; exact h.size, fun i hi hne => (Below.heap_setCell b p u i (by omega)).trans (h.block i hi hne)⟩
set_option maxHeartbeats 1000000 in
theorem odd_any (rb b : Nat) (n : Int) (w : World) (hr : Rd w rb b) (hb : b ≤ 1099511627776) (hn : n ≤ 1099511627776) :
    Calls Tryd.prog 39 #[.pointer (some ⟨rb, 0, none⟩), .int .i64 n] w fun r w' => ∃ v : Bool, r = .returned (.bool v) ∧ Only rb w w' ∧ Rd w' rb (b + 1) := by
  by_cases h0 : 0 < n
  · go_enter Tryd.func39, Tryd.ntmps39
    go_wp2_with fail
    refine (pick_any rb b n _ hr hb hn).mono ?_
    rintro e w1 ⟨v, rfl, h1, h2, ho, hr1⟩
    have h3 := h2 (by omega)
    cases hv : (v == n - 1)
    · go_wp2_with fail
      go_ret
      exact ⟨_, rfl, ho, hr1⟩
    · go_wp2_with fail
      go_ret
      exact ⟨_, rfl, ho, hr1⟩
  · go_enter Tryd.func39, Tryd.ntmps39
    go_wp2_with fail
    go_ret
    exact ⟨.inl rfl, Only.refl _ _, hr.le (by omega)⟩
/-- The bytes of an argument. -/
def Bytes (w : World) (A : Option Addr) (n : Nat) : Prop :=
  0 < n → ∃ b off, A = some ⟨b, off, none⟩ ∧ b < w.heap.size ∧ ∀ k, k < n → ∃ x : Nat, x ≤ 255 ∧ w.cell? ⟨b, off + k, none⟩ = some (.int .u8 x)
theorem Bytes.keep {w w' : World} {A : Option Addr} {n : Nat} (h : Bytes w A n) (hn : New w w') : Bytes w' A n := fun h0 => by
  obtain ⟨b, off, e, hb, hc⟩ := h h0
  refine ⟨b, off, e, Nat.lt_of_lt_of_le hb hn.size, fun k hk => ?_⟩
  obtain ⟨x, hx, hcx⟩ := hc k hk
  exact ⟨x, hx, (New.cell hn (p := ⟨b, off + k, none⟩) hb).trans hcx⟩
theorem rd_new {w : World} {A : Option Addr} {m n cap : Nat} (h : Bytes w A m) (hm : n ≤ m) (hn : n ≤ 2000) : Rd (w.alloc (.cells #[.slice A n cap, .int .i64 0] 68)) w.heap.size 0 :=
  ⟨0, A, n, cap, Nat.le_refl _, hn, Has.new _ _ _, fun h0 => by
    obtain ⟨b, off, e, hb, hc⟩ := h (by omega)
    refine ⟨b, off, e, hb, by simp; omega, fun k hk => ?_⟩
    obtain ⟨x, hx, hcx⟩ := hc k (by omega)
    exact ⟨x, hx, (New.cell ((New.refl w).alloc _) (p := ⟨b, off + k, none⟩) hb).trans hcx⟩⟩
set_option maxHeartbeats 1000000 in
theorem l20Open_any (A : Option Addr) (n cap : Nat) (w : World) (h : Bytes w A n) (hc : n ≤ cap) (hn : n ≤ maxLen) :
    Calls Tryd.prog 22 #[.slice A n cap] w fun r w' => r = .returned (.pointer (some ⟨w.heap.size, 0, none⟩)) ∧ New w w' ∧ Rd w' w.heap.size 0 := by
  by_cases hbig : (2000 : Int) < (n : Int)
  · have hc' : (2000 : Int) ≤ (cap : Int) := by omega
    have HH := Lib.hid h
    clear h
    go_enter Tryd.func22, Tryd.ntmps22
    go_wp2_with fail
    go_ret
    exact ⟨rfl, (by repeat (first | with_reducible exact New.refl _ | with_reducible assumption | with_reducible refine New.alloc ?_ _ | with_reducible refine New.drewN ?_ _ | with_reducible refine New.drew ?_ | with_reducible refine New.setCell ?_ (by first | omega | (simp; done) | (simp; omega)) _ | with_reducible refine New.tail (by assumption) ?_)), rd_new HH.out (by omega) (by omega)⟩
  · have HH := Lib.hid h
    clear h
    go_enter Tryd.func22, Tryd.ntmps22
    go_wp2_with fail
    go_ret
    exact ⟨rfl, (by repeat (first | with_reducible exact New.refl _ | with_reducible assumption | with_reducible refine New.alloc ?_ _ | with_reducible refine New.drewN ?_ _ | with_reducible refine New.drew ?_ | with_reducible refine New.setCell ?_ (by first | omega | (simp; done) | (simp; omega)) _ | with_reducible refine New.tail (by assumption) ?_)), rd_new HH.out (Nat.le_refl _) (by omega)⟩
end Go.Proofs.YtmdeekojioeomaaDoor
