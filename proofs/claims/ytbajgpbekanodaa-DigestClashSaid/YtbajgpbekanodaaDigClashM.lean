/- The mathematics of digest's Clash. -/
import Derived.Test.YtbajgpbekanodaaDigSmallB
namespace Go.Proofs.Ytbajgpbekanodaa
open Go.RowKit

theorem up_clash (H : ByteArray → ByteArray) (hH : ∀ s, (H s).size = 32) (a b : ByteArray) (r : Bool) (p q : ByteArray) (hp : p.size = 32) (hq : q.size = 32) (h : Tre.up H a r p = Tre.up H b r q) : H a = H b := by
  unfold Tre.up at h
  cases r
  · exact (Tre.nodeB_inj (show Tre.nodeB p (H a) = Tre.nodeB q (H b) from h) (by rw [hp, hq])).2
  · exact (Tre.nodeB_inj (show Tre.nodeB (H a) p = Tre.nodeB (H b) q from h) (by rw [hH, hH])).1
theorem topP_succ (H : ByteArray → ByteArray) (t : ByteArray) (rs : List Bool) (ps : List ByteArray) (j : Nat) (hl : rs.length = ps.length) (h : j < rs.length) :
    topP H t rs ps (j + 1) = Tre.up H (topP H t rs ps j) (rs.getD j false) (ps.getD j ByteArray.empty) := by
  unfold topP
  rw [take_snocD rs j h false, take_snocD ps j (by omega) ByteArray.empty, Tre.topL_snoc _ _ _ _ _ _ (by rw [List.length_take, List.length_take]; omega)]
theorem topP_all (H : ByteArray → ByteArray) (t : ByteArray) (rs : List Bool) (ps : List ByteArray) (hl : rs.length = ps.length) : topP H t rs ps rs.length = Tre.topL H t rs ps := by
  unfold topP
  rw [List.take_length, hl, List.take_length]
/-- Where all above is alike, the digests are. -/
theorem clash_level (H : ByteArray → ByteArray) (hH : ∀ s, (H s).size = 32) (ta tb : ByteArray) (rs : List Bool) (ps qs : List ByteArray) (hp : rs.length = ps.length) (hq : rs.length = qs.length)
    (h32 : ∀ p ∈ ps, p.size = 32) (h32q : ∀ p ∈ qs, p.size = 32) (htop : H (Tre.topL H ta rs ps) = H (Tre.topL H tb rs qs)) (j : Nat) (hj : j ≤ rs.length)
    (hab : j < rs.length → topP H ta rs ps (j + 1) = topP H tb rs qs (j + 1)) : H (topP H ta rs ps j) = H (topP H tb rs qs j) := by
  by_cases h : j < rs.length
  · have := hab h
    rw [topP_succ H ta rs ps j hp h, topP_succ H tb rs qs j hq h] at this
    have e1 : ps.getD j ByteArray.empty = ps[j]'(by omega) := by simp [List.getD, show j < ps.length by omega]
    have e2 : qs.getD j ByteArray.empty = qs[j]'(by omega) := by simp [List.getD, show j < qs.length by omega]
    exact up_clash H hH _ _ _ _ _ (by rw [e1]; exact h32 _ (List.getElem_mem _)) (by rw [e2]; exact h32q _ (List.getElem_mem _)) this
  · obtain rfl : j = rs.length := by omega
    rw [topP_all H ta rs ps hp, topP_all H tb rs qs hq]
    exact htop
/-- What stands at each level. -/
theorem wayR_get (H : ByteArray → ByteArray) (n i : Int) (leaf : ByteArray) (ps : List ByteArray) (hf : Tre.fits n i ps = true) (j : Nat) (hj : j ≤ ps.length) :
    (Tre.wayR H n i leaf ps).1.getD j ByteArray.empty = topP H (Tre.leafB leaf) (Tre.sidesB n.toNat i.toNat) ps j := by
  have hf2 := hf
  unfold Tre.fits at hf2
  simp only [Bool.and_eq_true, decide_eq_true_eq, List.all_eq_true] at hf2
  obtain ⟨⟨⟨_, _⟩, h3⟩, _⟩ := hf2
  unfold Tre.wayR
  rw [if_pos hf]
  simp only
  generalize Tre.sidesB n.toNat i.toNat = rs at *
  rw [← wayP_last H (Tre.leafB leaf) rs ps j h3 (by omega)]
  have e : wayP H (Tre.leafB leaf) rs ps rs.length = Tre.wayL H (Tre.leafB leaf) rs ps := by unfold wayP; rw [List.take_length, h3, List.take_length]
  rw [← e]
  have hpre : ∀ d k, k ≤ rs.length → j + d = k → (wayP H (Tre.leafB leaf) rs ps k).getD j ByteArray.empty = (wayP H (Tre.leafB leaf) rs ps j).getD j ByteArray.empty := by
    intro d
    induction d with
    | zero => intro k _ hk; rw [show k = j by omega]
    | succ d ih =>
      intro k hk1 hk2
      obtain ⟨k', rfl⟩ : ∃ k', k = k' + 1 := ⟨k - 1, by omega⟩
      rw [wayP_succ H _ rs ps k' h3 (by omega)]
      rw [← ih k' (by omega) (by omega)]
      have hl := wayP_len H (Tre.leafB leaf) rs ps k' h3 (by omega)
      simp only [List.getD]
      rw [List.getElem?_append_left (by omega)]
  exact hpre (rs.length - j) rs.length (Nat.le_refl _) (by omega)
theorem sha_state {a b : ByteArray} (h : shaB a = shaB b) : Sha.state a.data.toList = Sha.state b.data.toList := Sha.sum_state (bytesB_inj (by exact h))
end Go.Proofs.Ytbajgpbekanodaa
