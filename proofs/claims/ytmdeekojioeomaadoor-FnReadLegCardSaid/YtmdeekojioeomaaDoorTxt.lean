/- The texts of legs taken apart (plain Lean): what Cut, Split and Atoi give at them, and the like for the reference's own reading. -/
import Derived.Test.YtmdeekojioeomaaDoorNum
import Derived.Test.YtmdeekojioeomaaDoorShelfS
import Derived.Lib.SplitLaws
namespace Go.Proofs.YtmdeekojioeomaaDoor
open Go.RowKit
set_option linter.all false
/-- The bytes of a text. -/
abbrev bs (s : ByteArray) : List UInt8 := s.data.toList
theorem bs_inj {a b : ByteArray} (h : bs a = bs b) : a = b := by
  obtain ⟨⟨a⟩⟩ := a
  obtain ⟨⟨b⟩⟩ := b
  have h' : a = b := h
  rw [h']
theorem bs_injL : ∀ {x y : List ByteArray}, x.map bs = y.map bs → x = y
  | [], [], _ => rfl
  | [], _ :: _, h => by simp at h
  | _ :: _, [], h => by simp at h
  | a :: x, b :: y, h => by
    rw [List.map_cons, List.map_cons, List.cons.injEq] at h
    rw [bs_inj h.1, bs_injL h.2]
theorem bs_app (a b : ByteArray) : bs (a ++ b) = bs a ++ bs b := by simp [bs]
theorem bs_mk (l : List UInt8) : bs ⟨l.toArray⟩ = l := rfl
theorem bs_size (a : ByteArray) : a.size = (bs a).length := Lib.size_eq a
/-- No sign between numbers stands in a number. -/
def noSep (l : List UInt8) : Bool := l.all fun x => x == 45 || (48 ≤ x && x ≤ 57)
theorem tx_noSep (n : Int) (h0 : -99 ≤ n) (h1 : n ≤ 99) : noSep (bs (tx n)) = true := by
  have h : ∀ k : Fin 199, noSep (bs (tx ((k.val : Int) - 99))) = true := by decide +kernel
  have := h ⟨(n + 99).toNat, by omega⟩
  rw [show (((n + 99).toNat : Nat) : Int) - 99 = n by omega] at this
  exact this
theorem noSep_mem {l : List UInt8} (h : noSep l = true) {c : UInt8} (hc : (c == 45 || (48 ≤ c && c ≤ 57)) = false) : c ∉ l := fun hm => by
  have := List.all_eq_true.1 h c hm
  rw [hc] at this
  cases this
theorem tx_no (n : Int) (h0 : -99 ≤ n) (h1 : n ≤ 99) : (62 : UInt8) ∉ bs (tx n) ∧ (58 : UInt8) ∉ bs (tx n) ∧ (44 : UInt8) ∉ bs (tx n) :=
  ⟨noSep_mem (tx_noSep n h0 h1) (by decide), noSep_mem (tx_noSep n h0 h1) (by decide), noSep_mem (tx_noSep n h0 h1) (by decide)⟩
def isOk (e : Lib.NumEnd Int) (n : Int) : Bool := match e with | .ok v => v == n | _ => false
theorem isOk_t {e : Lib.NumEnd Int} {n : Int} (h : isOk e n = true) : e = .ok n := by
  cases e <;> simp [isOk] at h
  rw [h]
theorem tx_atoi (n : Int) (h0 : -99 ≤ n) (h1 : n ≤ 99) : Lib.atoiAll (bs (tx n)) = .ok n := by
  have h : ∀ k : Fin 199, isOk (Lib.atoiAll (bs (tx ((k.val : Int) - 99)))) ((k.val : Int) - 99) = true := by decide +kernel
  have := h ⟨(n + 99).toNat, by omega⟩
  rw [show (((n + 99).toNat : Nat) : Int) - 99 = n by omega] at this
  exact isOk_t this
/-! The library's way. -/
theorem index_at (c : UInt8) (B : List UInt8) : ∀ A : List UInt8, c ∉ A → Lib.index (A ++ c :: B) [c] = (A.length : Nat)
  | [], _ => by simp [Lib.index, List.isPrefixOf]
  | a :: A, h => by
    have ha : ¬ c = a := fun e => h (by simp [e])
    have ih := index_at c B A (fun hm => h (by simp [hm]))
    have e1 : ([c] : List UInt8).isPrefixOf (a :: (A ++ c :: B)) = false := by simp [List.isPrefixOf, ha]
    rw [List.cons_append, Lib.index, e1, ih]
    have e2 : ¬ (((A.length : Nat) : Int) == -1) = true := fun e => by have := beq_iff_eq.1 e; omega
    rw [if_neg (by decide), if_neg e2]
    simp
theorem index_no (c : UInt8) : ∀ A : List UInt8, c ∉ A → Lib.index A [c] = -1
  | [], _ => by simp [Lib.index]
  | a :: A, h => by
    have ha : ¬ c = a := fun e => h (by simp [e])
    have ih := index_no c A (fun hm => h (by simp [hm]))
    have e1 : ([c] : List UInt8).isPrefixOf (a :: A) = false := by simp [List.isPrefixOf, ha]
    rw [Lib.index, e1, ih]
    simp
theorem cut_at (c : UInt8) (A B : List UInt8) (h : c ∉ A) : Lib.cut (A ++ c :: B) [c] = (A, B, true) := by
  have hi := index_at c B A h
  unfold Lib.cut
  rw [hi, if_pos (by omega)]
  simp
theorem cut_le (s : List UInt8) (c : UInt8) : (Lib.cut s [c]).1.length ≤ s.length ∧ (Lib.cut s [c]).2.1.length ≤ s.length := by
  unfold Lib.cut
  split <;> simp <;> omega
theorem cut_nil (c : UInt8) : (Lib.cut [] [c]).2.2 = false := by simp [Lib.cut, Lib.index]
theorem count_at (c : UInt8) (A B : List UInt8) (h : c ∉ A) : Lib.count (A ++ c :: B) [c] = 1 + Lib.count B [c] := by
  rw [Lib.count_one, Lib.count_one, List.count_append, List.count_cons_self, List.count_eq_zero.2 h]
  omega
theorem count_no (c : UInt8) (A : List UInt8) (h : c ∉ A) : Lib.count A [c] = 0 := by rw [Lib.count_one, List.count_eq_zero.2 h]
theorem splitK_at (c : UInt8) (k : Nat) (A B : List UInt8) (h : c ∉ A) : Lib.splitK [c] 0 (k + 1) (A ++ c :: B) = A :: Lib.splitK [c] 0 k B := by
  have hi := index_at c B A h
  have e2 : ¬ (((A.length : Nat) : Int) == -1) = true := fun e => by have := beq_iff_eq.1 e; omega
  rw [Lib.splitK, hi, if_neg e2]
  simp
theorem splitB_le (sep : ByteArray) : ∀ (k : Nat) (s : ByteArray) (x : ByteArray), x ∈ Lib.splitB sep 0 k s → x.size ≤ s.size
  | 0, s, x, h => by simp [Lib.splitB] at h; rw [h]; exact Nat.le_refl _
  | k + 1, s, x, h => by
    unfold Lib.splitB at h
    split at h
    · simp at h; rw [h]; exact Nat.le_refl _
    · rcases List.mem_cons.1 h with rfl | h
      · simp [ByteArray.size_extract]; omega
      · have := splitB_le sep k _ x h
        simp [ByteArray.size_extract] at this
        omega
/-- The three numbers of a way's text. -/
theorem wtx_split (e n u : Int) (he : -99 ≤ e ∧ e ≤ 99) (hn : -99 ≤ n ∧ n ≤ 99) (hu : -99 ≤ u ∧ u ≤ 99) :
    Lib.countB (wtx e n u) ⟨#[44]⟩ = 2 ∧ Lib.splitB ⟨#[44]⟩ 0 2 (wtx e n u) = [tx e, tx n, tx u] := by
  have h1 := (tx_no e he.1 he.2).2.2
  have h2 := (tx_no n hn.1 hn.2).2.2
  have h3 := (tx_no u hu.1 hu.2).2.2
  have hb : bs (wtx e n u) = bs (tx e) ++ 44 :: (bs (tx n) ++ 44 :: bs (tx u)) := by
    unfold wtx
    rw [bs_app, bs_app, bs_app, bs_app]
    simp [bs]
  constructor
  · show Lib.count (bs (wtx e n u)) [44] = 2
    rw [hb, count_at _ _ _ h1, count_at _ _ _ h2, count_no _ _ h3]
  · have h := Lib.splitB_data ⟨#[44]⟩ 0 2 (wtx e n u)
    have hs : Lib.splitK [44] 0 2 (bs (wtx e n u)) = [bs (tx e), bs (tx n), bs (tx u)] := by
      rw [hb, splitK_at _ _ _ _ h1, splitK_at _ _ _ _ h2]
      rfl
    have h' : (Lib.splitB ⟨#[44]⟩ 0 2 (wtx e n u)).map (·.data.toList) = [tx e, tx n, tx u].map (·.data.toList) := h.trans hs
    exact bs_injL h'
/-- A leg's text, taken apart as the program does it. -/
theorem ltx_apart {f t e n u : Int} (hv : legB 6 f t e n u = true) :
    Lib.cut (bs (ltx f t e n u)) [62] = (bs (tx f), bs (tx t) ++ 58 :: bs (wtx e n u), true) ∧ Lib.cut (bs (tx t) ++ 58 :: bs (wtx e n u)) [58] = (bs (tx t), bs (wtx e n u), true) := by
  obtain ⟨-, -, f0, f1, t0, t1, -, e0, e1, n0, n1, u0, u1⟩ := legB_t.1 hv
  have h1 := (tx_no f (by omega) (by omega)).1
  have h2 := (tx_no t (by omega) (by omega)).2.1
  have hb : bs (ltx f t e n u) = bs (tx f) ++ 62 :: (bs (tx t) ++ 58 :: bs (wtx e n u)) := by
    rw [ltx_ok hv, bs_app, bs_app, bs_app, bs_app]
    simp [bs]
  exact ⟨by rw [hb]; exact cut_at _ _ _ h1, cut_at _ _ _ h2⟩
/-! The reference's way. -/
/-- Bytes cut at a byte; acc is what stands before. -/
def pieces (c : UInt8) : List UInt8 → List UInt8 → List (List UInt8)
  | acc, [] => [acc]
  | acc, x :: l => if x = c then acc :: pieces c [] l else pieces c (acc ++ [x]) l
theorem pieces_at (c : UInt8) (B : List UInt8) : ∀ (A acc : List UInt8), c ∉ A → pieces c acc (A ++ c :: B) = (acc ++ A) :: pieces c [] B
  | [], acc, _ => by simp [pieces]
  | a :: A, acc, h => by
    have ha : ¬ a = c := fun e => h (by simp [e])
    rw [List.cons_append, pieces, if_neg ha, pieces_at c B A _ (fun hm => h (by simp [hm]))]
    simp
theorem pieces_no (c : UInt8) : ∀ (A acc : List UInt8), c ∉ A → pieces c acc A = [acc ++ A]
  | [], acc, _ => by simp [pieces]
  | a :: A, acc, h => by
    have ha : ¬ a = c := fun e => h (by simp [e])
    rw [pieces, if_neg ha, pieces_no c A _ (fun hm => h (by simp [hm]))]
    simp
/-- The rest of the cut text, from place k, with a piece begun at from. -/
def cutR (s : ByteArray) (c : UInt8) : Nat → Nat → Nat → List ByteArray
  | 0, fr, k => [s.extract fr s.size]
  | m + 1, fr, k => if (bs s)[k]? = some c then s.extract fr k :: cutR s c m (k + 1) (k + 1) else cutR s c m fr (k + 1)
theorem cutR_data (s : ByteArray) (c : UInt8) : ∀ (m fr k : Nat), k + m = s.size → fr ≤ k → (cutR s c m fr k).map bs = pieces c (((bs s).take k).drop fr) ((bs s).drop k)
  | 0, fr, k, h, hf => by
    have hk : k = (bs s).length := by rw [← bs_size]; omega
    subst hk
    rw [List.drop_length, List.take_length, cutR]
    show [bs (s.extract fr s.size)] = _
    unfold bs
    rw [Lib.extract_to_end]
    simp [pieces]
  | m + 1, fr, k, h, hf => by
    have hk : k < (bs s).length := by rw [← bs_size]; omega
    have e : (bs s).drop k = (bs s)[k] :: (bs s).drop (k + 1) := List.drop_eq_getElem_cons hk
    have eg : (bs s)[k]? = some (bs s)[k] := List.getElem?_eq_getElem hk
    rw [cutR, e, pieces, eg]
    by_cases hc : (bs s)[k] = c
    · rw [if_pos (by rw [hc]), if_pos hc, List.map_cons, cutR_data s c m (k + 1) (k + 1) (by omega) (Nat.le_refl _)]
      have e1 : bs (s.extract fr k) = ((bs s).take k).drop fr := by
        unfold bs
        rw [Lib.extract_data, List.drop_take]
      have e2 : ((bs s).take (k + 1)).drop (k + 1) = [] := by
        apply List.drop_eq_nil_of_le
        simp
        omega
      rw [e1, e2]
    · rw [if_neg (by simpa using hc), if_neg hc, cutR_data s c m fr (k + 1) (by omega) (by omega)]
      congr 1
      rw [List.take_add_one, eg, List.drop_append_of_le_length (by simp; omega)]
      rfl
/-- All pieces of a text cut at a byte. -/
def cutA (s : ByteArray) (c : UInt8) : List ByteArray := cutR s c s.size 0 0
theorem cutA_data (s : ByteArray) (c : UInt8) : (cutA s c).map bs = pieces c [] (bs s) := by
  have := cutR_data s c s.size 0 0 (by omega) (Nat.le_refl _)
  simpa [cutA] using this
theorem cutR_ne (s : ByteArray) (c : UInt8) : ∀ (m fr k : Nat), cutR s c m fr k ≠ []
  | 0, fr, k => by simp [cutR]
  | m + 1, fr, k => by
    unfold cutR
    split
    · simp
    · exact cutR_ne s c m fr (k + 1)
theorem cutR_le (s : ByteArray) (c : UInt8) : ∀ (m fr k : Nat) (x : ByteArray), x ∈ cutR s c m fr k → x.size ≤ s.size
  | 0, fr, k, x, h => by
    simp [cutR] at h; rw [h]; simp [ByteArray.size_extract]
  | m + 1, fr, k, x, h => by
    unfold cutR at h
    split at h
    · rcases List.mem_cons.1 h with rfl | h
      · simp [ByteArray.size_extract]; omega
      · exact cutR_le s c m _ _ x h
    · exact cutR_le s c m _ _ x h
theorem cutA_le {s : ByteArray} {c : UInt8} {x : ByteArray} (h : x ∈ cutA s c) : x.size ≤ s.size := cutR_le s c _ _ _ x h
theorem cutA_len (s : ByteArray) (c : UInt8) : (cutA s c).length ≤ s.size + 1 := by
  have h : ∀ (m fr k : Nat), (cutR s c m fr k).length ≤ m + 1 := by
    intro m
    induction m with
    | zero => intro fr k; simp [cutR]
    | succ m ih =>
      intro fr k
      unfold cutR
      split
      · have := ih (k + 1) (k + 1); simp; omega
      · have := ih fr (k + 1); omega
  exact h _ _ _
/-- The number of one to four digits. -/
def dgF (n : Int) : List UInt8 → Int
  | [] => n
  | x :: l => if x.toNat < 48 ∨ 57 < x.toNat then -1 else dgF (10 * n + ((x.toNat : Int) - 48)) l
def dgL (l : List UInt8) : Int := if 1 ≤ l.length ∧ l.length ≤ 4 ∧ ¬ (1 < l.length ∧ l[0]? = some 48) then dgF 0 l else -1
def rdL (l : List UInt8) : Int := if 1 < l.length ∧ l[0]? = some 45 ∧ 0 < dgL (l.drop 1) then -dgL (l.drop 1) else if dgL l < 0 then 9999 else dgL l
theorem tx_rd (n : Int) (h0 : -99 ≤ n) (h1 : n ≤ 99) : rdL (bs (tx n)) = n := by
  have h : ∀ k : Fin 199, rdL (bs (tx ((k.val : Int) - 99))) = ((k.val : Int) - 99) := by decide +kernel
  have := h ⟨(n + 99).toNat, by omega⟩
  rw [show (((n + 99).toNat : Nat) : Int) - 99 = n by omega] at this
  exact this
/-- A leg's text, taken apart as the reference does it. -/
theorem ltx_pieces {f t e n u : Int} (hv : legB 6 f t e n u = true) :
    ∃ a b, cutA (ltx f t e n u) 58 = [a, b] ∧ cutA a 62 = [tx f, tx t] ∧ cutA b 44 = [tx e, tx n, tx u] := by
  obtain ⟨-, -, f0, f1, t0, t1, -, e0, e1, n0, n1, u0, u1⟩ := legB_t.1 hv
  have F := tx_no f (by omega) (by omega)
  have T := tx_no t (by omega) (by omega)
  have E := tx_no e e0 e1
  have N := tx_no n n0 n1
  have U := tx_no u u0 u1
  have inj : ∀ {x y : List ByteArray}, x.map bs = y.map bs → x = y := fun h => bs_injL h
  refine ⟨tx f ++ ⟨#[62]⟩ ++ tx t, wtx e n u, inj ?_, inj ?_, inj ?_⟩
  · have hb : bs (ltx f t e n u) = bs (tx f ++ ⟨#[62]⟩ ++ tx t) ++ 58 :: bs (wtx e n u) := by
      rw [ltx_ok hv, bs_app, bs_app]
      simp [bs]
    have h1 : (58 : UInt8) ∉ bs (tx f ++ ⟨#[62]⟩ ++ tx t) := by
      rw [bs_app, bs_app]
      intro h
      rcases List.mem_append.1 h with h | h
      · rcases List.mem_append.1 h with h | h
        · exact F.2.1 h
        · revert h; decide
      · exact T.2.1 h
    have h2 : (58 : UInt8) ∉ bs (wtx e n u) := by
      unfold wtx
      rw [bs_app, bs_app, bs_app, bs_app]
      intro h
      rcases List.mem_append.1 h with h | h
      · rcases List.mem_append.1 h with h | h
        · rcases List.mem_append.1 h with h | h
          · rcases List.mem_append.1 h with h | h
            · exact E.2.1 h
            · revert h; decide
          · exact N.2.1 h
        · revert h; decide
      · exact U.2.1 h
    rw [cutA_data, hb, pieces_at _ _ _ _ h1, pieces_no _ _ _ h2]
    rfl
  · have hb : bs (tx f ++ ⟨#[62]⟩ ++ tx t) = bs (tx f) ++ 62 :: bs (tx t) := by
      rw [bs_app, bs_app]
      simp [bs]
    rw [cutA_data, hb, pieces_at _ _ _ _ F.1, pieces_no _ _ _ T.1]
    rfl
  · have hb : bs (wtx e n u) = bs (tx e) ++ 44 :: (bs (tx n) ++ 44 :: bs (tx u)) := by
      unfold wtx
      rw [bs_app, bs_app, bs_app, bs_app]
      simp [bs]
    rw [cutA_data, hb, pieces_at _ _ _ _ E.2.2, pieces_at _ _ _ _ N.2.2, pieces_no _ _ _ U.2.2]
    rfl
/-! What reading a leg is. -/
/-- The text s is read as the leg, or as none (then the leg is the zero value). -/
def Reads (s : ByteArray) (f t e n u : Int) (ok : Bool) : Prop :=
  (ok = true ∧ legB 6 f t e n u = true ∧ ltx f t e n u = s) ∨
  (ok = false ∧ f = 0 ∧ t = 0 ∧ e = 0 ∧ n = 0 ∧ u = 0 ∧ ∀ f t e n u, legB 6 f t e n u = true → ltx f t e n u ≠ s)
theorem ltx_inj {f t e n u f' t' e' n' u' : Int} (h : legB 6 f t e n u = true) (h' : legB 6 f' t' e' n' u' = true) (hs : ltx f t e n u = ltx f' t' e' n' u') : f = f' ∧ t = t' ∧ e = e' ∧ n = n' ∧ u = u' := by
  obtain ⟨a, b, h1, h2, h3⟩ := ltx_pieces h
  obtain ⟨a', b', h1', h2', h3'⟩ := ltx_pieces h'
  rw [hs, h1'] at h1
  obtain ⟨rfl, rfl⟩ : a' = a ∧ b' = b := by simpa using h1
  rw [h2'] at h2
  rw [h3'] at h3
  obtain ⟨q1, q2⟩ : tx f' = tx f ∧ tx t' = tx t := by simpa using h2
  obtain ⟨q3, q4, q5⟩ : tx e' = tx e ∧ tx n' = tx n ∧ tx u' = tx u := by simpa using h3
  obtain ⟨-, -, f0, f1, t0, t1, -, e0, e1, n0, n1, u0, u1⟩ := legB_t.1 h
  obtain ⟨-, -, f0', f1', t0', t1', -, e0', e1', n0', n1', u0', u1'⟩ := legB_t.1 h'
  have rd : ∀ {x y : Int}, (-99 ≤ x ∧ x ≤ 99) → (-99 ≤ y ∧ y ≤ 99) → tx y = tx x → x = y := fun {x y} hx hy hh => by
    have e1 := tx_rd x hx.1 hx.2
    have e2 := tx_rd y hy.1 hy.2
    rw [hh] at e2
    omega
  exact ⟨rd (by omega) (by omega) q1, rd (by omega) (by omega) q2, rd (by omega) (by omega) q3, rd (by omega) (by omega) q4, rd (by omega) (by omega) q5⟩
theorem Reads.one {s : ByteArray} {f t e n u f' t' e' n' u' : Int} {ok ok' : Bool} (h : Reads s f t e n u ok) (h' : Reads s f' t' e' n' u' ok') : f = f' ∧ t = t' ∧ e = e' ∧ n = n' ∧ u = u' ∧ ok = ok' := by
  rcases h with ⟨rfl, hv, hs⟩ | ⟨rfl, rfl, rfl, rfl, rfl, rfl, hno⟩
  · rcases h' with ⟨rfl, hv', hs'⟩ | ⟨rfl, rfl, rfl, rfl, rfl, rfl, hno'⟩
    · obtain ⟨rfl, rfl, rfl, rfl, rfl⟩ := ltx_inj hv hv' (hs.trans hs'.symm)
      exact ⟨rfl, rfl, rfl, rfl, rfl, rfl⟩
    · exact absurd hs (hno' _ _ _ _ _ hv)
  · rcases h' with ⟨rfl, hv', hs'⟩ | ⟨rfl, rfl, rfl, rfl, rfl, rfl, hno'⟩
    · exact absurd hs' (hno _ _ _ _ _ hv')
    · exact ⟨rfl, rfl, rfl, rfl, rfl, rfl⟩
theorem tx_last (n : Int) (h0 : -99 ≤ n) (h1 : n ≤ 99) : ∃ x, (bs (tx n)).getLast? = some x ∧ x ≠ 44 := by
  have h : ∀ k : Fin 199, ((bs (tx ((k.val : Int) - 99))).getLast?.any (fun x => x != 44)) = true := by decide +kernel
  have := h ⟨(n + 99).toNat, by omega⟩
  rw [show (((n + 99).toNat : Nat) : Int) - 99 = n by omega] at this
  cases hh : (bs (tx n)).getLast? with
  | none => rw [hh] at this; cases this
  | some x => rw [hh] at this; exact ⟨x, rfl, by simpa using this⟩
/-- No leg's text ends with a comma. -/
theorem ltx_comma {f t e n u : Int} (hv : legB 6 f t e n u = true) (s : ByteArray) : ltx f t e n u ≠ s ++ ⟨#[44]⟩ := fun h => by
  obtain ⟨-, -, f0, f1, t0, t1, -, e0, e1, n0, n1, u0, u1⟩ := legB_t.1 hv
  obtain ⟨x, hx, hne⟩ := tx_last u u0 u1
  have h2 : (bs (ltx f t e n u)).getLast? = some x := by
    have h3 : (bs (wtx e n u)).getLast? = some x := by
      unfold wtx
      rw [bs_app, List.getLast?_append, hx]
      rfl
    rw [ltx_ok hv, bs_app, List.getLast?_append, h3]
    rfl
  rw [h, bs_app, List.getLast?_append] at h2
  exact hne (by simpa [bs] using h2.symm)
end Go.Proofs.YtmdeekojioeomaaDoor
