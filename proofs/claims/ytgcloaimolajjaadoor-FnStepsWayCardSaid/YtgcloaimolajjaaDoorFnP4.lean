/- Plain facts for FnStepsWay. -/
import Derived.Test.YtgcloaimolajjaaDoorFnP2
namespace Go.Proofs.YtgcloaimolajjaaDoor
open Go.RowKit
set_option linter.all false
theorem sw_sum {st : Int} {L : List Lg} {S : List St} (h : soB st L S = true) (hl : S.length ≤ 100) {G : Lg → Int} (hG : SmG G L) : swB st L S (stG G L) = wt (fun i => G (legAt L i)) S := by
  rw [swB_ok _ h]
  exact sum_wt hG (by omega)
theorem sw_back {st : Int} {L : List Lg} {S : List St} (h : soB st L S = true) (hl : S.length ≤ 100) {G : Lg → Int} (hG : SmG G L) : swB st L (backS S) (stG G L) = mu (swB st L S (stG G L)) (-1) := by
  rw [sw_sum (so_back h) (by rw [backS_len]; exact hl) hG, sw_sum h hl hG, wt_back]
  have hb := wt_bd hG S
  unfold mu
  rw [wrap_sm (by omega)]
  omega
theorem sw_places {n : Nat} {L : List Lg} {S : List St} (h : soB n L S = true) (hl : S.length ≤ 100) (hc : clB n L = true) (h0 : 0 < S.length) :
    (ad (tpF n L (sBeg L S[0]) (stE L)) (swB n L S (stE L)) = tpF n L (sEnd L (S[S.length - 1]'(by omega))) (stE L)) ∧ (ad (tpF n L (sBeg L S[0]) (stN L)) (swB n L S (stN L)) = tpF n L (sEnd L (S[S.length - 1]'(by omega))) (stN L)) ∧ (ad (tpF n L (sBeg L S[0]) (stU L)) (swB n L S (stU L)) = tpF n L (sEnd L (S[S.length - 1]'(by omega))) (stU L)) := by
  obtain ⟨hv, f1, f2⟩ := so_facts h
  obtain ⟨-, hz⟩ := cl_t.1 hc
  have hin : ∀ x ∈ S, inS n (sBeg L x) ∧ inS n (sEnd L x) := fun x hx => by
    obtain ⟨a0, a1⟩ := f1 x hx
    have := end_facts hv a0 a1
    exact ⟨⟨this.2.2.1, this.2.2.2⟩, ⟨this.1, this.2.1⟩⟩
  have key : ∀ G : Lg → Int, SmG G L → (∀ k, k < L.length → miF n L k (stG G L) G = 0) → ad (plc n L G (sBeg L S[0])) (swB n L S (stG G L)) = plc n L G (sEnd L (S[S.length - 1]'(by omega))) := fun G hG hm => by
    have e := cl_chain hc h h0 hG hm
    have b1 := plc_bd hv (hin _ (List.getElem_mem (show 0 < S.length by omega))).1 hG
    have b2 := plc_bd hv (hin _ (List.getElem_mem (show S.length - 1 < S.length by omega))).2 hG
    rw [sw_sum h hl hG, e]
    unfold ad
    rw [wrap_sm (by omega)]
    omega
  exact ⟨key Lg.e (smE hv) fun k hk => (zero_t.1 (hz k hk)).1, key Lg.n (smN hv) fun k hk => (zero_t.1 (hz k hk)).2.1, key Lg.u (smU hv) fun k hk => (zero_t.1 (hz k hk)).2.2⟩
theorem sw_none {st : Int} {L : List Lg} (F : St → Int) : swB st L [] F = 0 := by
  unfold swB
  split <;> rfl
end Go.Proofs.YtgcloaimolajjaaDoor
