/- The mathematics of the document's Comes. -/
import Derived.Test.YtbajgpbekanodaaTreeMath
namespace Go.Proofs.Ytbajgpbekanodaa
namespace Tre

/-- What comes of a leaf and a proof, the last digest of the proof first. -/
def comesL (H : ByteArray → ByteArray) (leaf : ByteArray) : List ByteArray → Nat → Nat → ByteArray × Bool
  | [], n, _ => if n = 1 then (H (leafB leaf), true) else (ByteArray.empty, false)
  | p :: q, n, i => if n = 1 then (H (leafB leaf), false) else if p.size = 32 then
      (if i < half n then (H (nodeB (comesL H leaf q (half n) i).1 p), (comesL H leaf q (half n) i).2)
       else (H (nodeB p (comesL H leaf q (n - half n) (i - half n)).1), (comesL H leaf q (n - half n) (i - half n)).2))
    else (ByteArray.empty, false)
theorem comesL_size (H : ByteArray → ByteArray) (hH : ∀ s, (H s).size = 32) (leaf : ByteArray) (q : List ByteArray) (n i : Nat) : (comesL H leaf q n i).1.size ≤ 32 := by
  cases q <;> unfold comesL <;> repeat' split
  all_goals first
    | (show (H _).size ≤ 32; rw [hH]; exact Nat.le_refl _)
    | (show ByteArray.empty.size ≤ 32; decide)
theorem comesL_ok (H : ByteArray → ByteArray) (leaf : ByteArray) (q : List ByteArray) : ∀ (n i : Nat), i < n → n < 2 ^ 64 →
    (comesL H leaf q n i).2 = (decide ((sidesB n i).length = q.length) && q.all (fun p => decide (p.size = 32))) ∧
      ((comesL H leaf q n i).2 = true → (comesL H leaf q n i).1 = H (topL H (leafB leaf) (sidesB n i) q.reverse)) := by
  induction q with
  | nil =>
    intro n i hi hn
    unfold comesL
    by_cases h1 : n = 1
    · subst h1
      rw [if_pos rfl]
      have e : sidesB 1 i = [] := rfl
      rw [e]
      exact ⟨rfl, fun _ => rfl⟩
    · rw [if_neg h1]
      refine ⟨?_, fun h => by cases h⟩
      rw [sidesB_many n i (by omega) hn]
      split <;> simp
  | cons p q ih =>
    intro n i hi hn
    unfold comesL
    by_cases h1 : n = 1
    · subst h1
      rw [if_pos rfl]
      have e : sidesB 1 i = [] := rfl
      rw [e]
      exact ⟨by simp, fun h => by cases h⟩
    · rw [if_neg h1]
      obtain ⟨b1, b2, b3⟩ := half_bounds (n := n) (by omega) hn
      by_cases hp : p.size = 32
      · rw [if_pos hp, sidesB_many n i (by omega) hn]
        by_cases hlt : i < half n
        · rw [if_pos hlt, if_pos hlt]
          obtain ⟨i1, i2⟩ := ih (half n) i hlt (by omega)
          refine ⟨?_, fun h => ?_⟩
          · simp only
            rw [i1]
            simp [hp]
          · simp only at h ⊢
            have hl := i1
            rw [h] at hl
            have hl2 := hl.symm
            simp only [Bool.and_eq_true, decide_eq_true_eq] at hl2
            rw [i2 h, List.reverse_cons, topL_snoc _ _ _ _ _ _ (by rw [List.length_reverse]; exact hl2.1)]
            rfl
        · rw [if_neg hlt, if_neg hlt]
          obtain ⟨i1, i2⟩ := ih (n - half n) (i - half n) (by omega) (by omega)
          refine ⟨?_, fun h => ?_⟩
          · simp only
            rw [i1]
            simp [hp]
          · simp only at h ⊢
            have hl := i1
            rw [h] at hl
            have hl2 := hl.symm
            simp only [Bool.and_eq_true, decide_eq_true_eq] at hl2
            rw [i2 h, List.reverse_cons, topL_snoc _ _ _ _ _ _ (by rw [List.length_reverse]; exact hl2.1)]
            rfl
      · rw [if_neg hp]
        exact ⟨by simp [hp], fun h => by cases h⟩
/-- What the document's Comes tells. -/
def comesR (H : ByteArray → ByteArray) (n i : Int) (leaf : ByteArray) (ps : List ByteArray) : ByteArray × Bool :=
  if i < 0 ∨ n ≤ i then (ByteArray.empty, false) else comesL H leaf ps.reverse n.toNat i.toNat
theorem comesR_proves (H : ByteArray → ByteArray) (root : ByteArray) (n i : Int) (hn : n ≤ 9223372036854775807) (leaf : ByteArray) (ps : List ByteArray) :
    ((comesR H n i leaf ps).2 && decide ((comesR H n i leaf ps).1 = root)) = provesR H root n i leaf ps := by
  unfold comesR provesR fits
  by_cases h : i < 0 ∨ n ≤ i
  · rw [if_pos h]
    rcases h with h | h
    · rw [decide_eq_false (show ¬ 0 ≤ i by omega)]; simp
    · rw [decide_eq_false (show ¬ i < n by omega)]; simp
  · rw [if_neg h, decide_eq_true (show 0 ≤ i by omega), decide_eq_true (show i < n by omega)]
    obtain ⟨h1, h2⟩ := comesL_ok H leaf ps.reverse n.toNat i.toNat (by omega) (by omega)
    rw [List.reverse_reverse] at h2
    rw [List.length_reverse, List.all_reverse] at h1
    simp only [Bool.true_and]
    rw [← h1]
    cases hb : (comesL H leaf ps.reverse n.toNat i.toNat).2 with
    | false => rfl
    | true => rw [h2 hb]
end Tre
end Go.Proofs.Ytbajgpbekanodaa
