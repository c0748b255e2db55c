/- The mathematics of forms: what is taken of any bytes is laid as it stood there. Nothing of the program. -/
import Derived.Test.YtbajgpbekanodaaOctMathB
namespace Go.Proofs.Ytbajgpbekanodaa
namespace Oct

theorem cut_join (s : ByteArray) (a b c : Nat) (h1 : a ≤ b) (h2 : b ≤ c) : s.extract a b ++ s.extract b c = s.extract a c := by
  apply ByteArray.ext
  rw [ByteArray.data_append, ByteArray.data_extract, ByteArray.data_extract, ByteArray.data_extract, Array.extract_append_extract]
  congr 1 <;> omega
theorem cut_list (s : ByteArray) (a b : Nat) : (s.extract a b).data.toList = (s.data.toList.drop a).take (b - a) := by
  rw [ByteArray.data_extract, Array.toList_extract, List.extract_eq_take_drop]
theorem tnB_form {s : ByteArray} {p : Int} {n q : Nat} (h : tnB s p = (n, q, 0)) : ∃ P : Nat, p = (P : Int) ∧ P < q ∧ q ≤ s.size ∧ n < 18446744073709551616 ∧ numB n = s.extract P q := by
  have hl : s.data.toList.length = s.size := by simp
  unfold tnB tnI at h
  split at h
  · simp at h
  · rename_i hp
    obtain ⟨P, rfl⟩ := Int.eq_ofNat_of_zero_le (show 0 ≤ p by omega)
    rw [Int.toNat_natCast] at h
    obtain ⟨h1, h2, h3, h4⟩ := tn_form _ _ _ _ h
    refine ⟨P, rfl, h2, by omega, h1, ?_⟩
    have e : (numB n).data.toList = (s.extract P q).data.toList := by rw [numB_list, cut_list, h4]
    exact ByteArray.ext (Array.toList_inj.1 e)
theorem ttB_form {s : ByteArray} {p : Int} {t : ByteArray} {q : Nat} (h : ttB s p = (t, q, 0)) : ∃ P : Nat, p = (P : Int) ∧ P < q ∧ q ≤ s.size ∧ t.size ≤ s.size ∧ textB t = s.extract P q := by
  unfold ttB at h
  simp only at h
  cases hx : tnB s p with
  | mk n r =>
    obtain ⟨q1, e⟩ := r
    rw [hx] at h
    simp only at h
    by_cases he : e = 0
    · subst he
      rw [if_neg (by simp)] at h
      obtain ⟨P, rfl, h1, h2, h3, h4⟩ := tnB_form hx
      by_cases hn : s.size - q1 < n
      · rw [if_pos hn] at h; simp at h
      · rw [if_neg hn] at h
        simp only [Prod.mk.injEq, and_true] at h
        obtain ⟨rfl, rfl⟩ := h
        have hsz : (s.extract q1 (q1 + n)).size = n := by rw [ByteArray.size_extract]; omega
        refine ⟨P, rfl, by omega, by omega, by omega, ?_⟩
        unfold textB
        rw [hsz, h4]
        exact cut_join s P q1 (q1 + n) (by omega) (by omega)
    · rw [if_pos he] at h
      simp only [Prod.mk.injEq] at h
      exact absurd h.2.2 he
theorem tlF_form (s : ByteArray) : ∀ (m q : Nat) (acc l : List ByteArray) (q' : Nat), tlF s m q acc = (l, q', 0) → q ≤ s.size →
    q ≤ q' ∧ q' ≤ s.size ∧ ∃ ts : List ByteArray, l = acc ++ ts ∧ ts.length = m ∧ ∀ x : ByteArray, ts.foldl (fun b t => b ++ textB t) x = x ++ s.extract q q' := by
  intro m
  induction m with
  | zero =>
    intro q acc l q' h hq
    unfold tlF at h
    simp only [Prod.mk.injEq, and_true] at h
    obtain ⟨rfl, rfl⟩ := h
    refine ⟨Nat.le_refl _, hq, [], by simp, rfl, fun x => ?_⟩
    apply ByteArray.ext
    simp
  | succ m ih =>
    intro q acc l q' h hq
    unfold tlF at h
    simp only at h
    cases hx : ttB s (q : Int) with
    | mk t r =>
      obtain ⟨q1, e⟩ := r
      rw [hx] at h
      simp only at h
      by_cases he : e = 0
      · subst he
        rw [if_neg (by simp)] at h
        obtain ⟨P, hP, h1, h2, _, h4⟩ := ttB_form hx
        have hPq : q = P := by omega
        subst hPq
        obtain ⟨i1, i2, ts, i3, i4, i5⟩ := ih q1 (acc ++ [t]) l q' h h2
        refine ⟨by omega, i2, t :: ts, by rw [i3]; simp, by simp [i4], fun x => ?_⟩
        rw [List.foldl_cons, i5, h4, ByteArray.append_assoc, cut_join s q q1 q' (by omega) i1]
      · rw [if_pos he] at h
        simp only [Prod.mk.injEq] at h
        exact absurd h.2.2 he
theorem tlB_form {s : ByteArray} {p : Int} {l : List ByteArray} {q : Nat} (h : tlB s p = (l, q, 0)) : ∃ P : Nat, p = (P : Int) ∧ P < q ∧ q ≤ s.size ∧ listB l = s.extract P q := by
  unfold tlB at h
  simp only at h
  cases hx : tnB s p with
  | mk n r =>
    obtain ⟨q1, e⟩ := r
    rw [hx] at h
    simp only at h
    by_cases he : e = 0
    · subst he
      rw [if_neg (by simp)] at h
      obtain ⟨P, rfl, h1, h2, h3, h4⟩ := tnB_form hx
      obtain ⟨i1, i2, ts, i3, i4, i5⟩ := tlF_form s n q1 [] l q h h2
      refine ⟨P, rfl, by omega, i2, ?_⟩
      have e1 : l = ts := by rw [i3]; simp
      subst e1
      unfold listB
      rw [i5, i4, h4]
      exact cut_join s P q1 q (by omega) i1
    · rw [if_pos he] at h
      simp only [Prod.mk.injEq] at h
      exact absurd h.2.2 he
end Oct
end Go.Proofs.Ytbajgpbekanodaa
