/- The mathematics of numbers, texts and lists as bytes (layer 1). Nothing of the program. -/
import Derived.Laws.BitsAllLaws
namespace Go.Proofs.Ytbajgpbekanodaa
namespace Oct

/-- How many bytes a number below 2^64 wants. -/
def wd (n : Nat) : Nat :=
  if n = 0 then 0 else if n < 256 then 1 else if n < 65536 then 2 else if n < 16777216 then 3 else if n < 4294967296 then 4 else
  if n < 1099511627776 then 5 else if n < 281474976710656 then 6 else if n < 72057594037927936 then 7 else 8
/-- The low k bytes of a number, the highest first. -/
def be : Nat → Nat → List UInt8
  | 0, _ => []
  | k + 1, n => UInt8.ofNat (n / 256 ^ k) :: be k n
/-- Bytes as a number, the highest first. -/
def un (l : List UInt8) : Nat := l.foldl (fun n b => n * 256 + b.toNat) 0
/-- A number laid. -/
def num (n : Nat) : List UInt8 := if n < 248 then [UInt8.ofNat n] else UInt8.ofNat (247 + wd n) :: be (wd n) n

theorem wd_le (n : Nat) : wd n ≤ 8 := by unfold wd; repeat' split
                                         all_goals omega
theorem wd_zero {n : Nat} : wd n = 0 ↔ n = 0 := by
  unfold wd
  repeat' split
  all_goals omega
theorem lt_wd {n : Nat} (h : n < 18446744073709551616) : n < 256 ^ wd n := by
  unfold wd
  repeat' split
  all_goals simp only [Nat.reducePow]; omega
theorem wd_ge {n k : Nat} (h : k < wd n) : 256 ^ k ≤ n := by
  have h8 := wd_le n
  have hk : k = 0 ∨ k = 1 ∨ k = 2 ∨ k = 3 ∨ k = 4 ∨ k = 5 ∨ k = 6 ∨ k = 7 := by omega
  unfold wd at h
  rcases hk with rfl | rfl | rfl | rfl | rfl | rfl | rfl | rfl <;> simp only [Nat.reducePow] <;> (repeat' split at h) <;> omega
/-- The width is the least number of bytes. -/
theorem wd_of {n k : Nat} (h : n < 18446744073709551616) (h1 : n < 256 ^ k) (h2 : ∀ j, j < k → 256 ^ j ≤ n) : wd n = k := by
  apply Classical.byContradiction
  intro hne
  rcases Nat.lt_or_gt_of_ne hne with hl | hl
  · have := h2 (wd n) hl; have := lt_wd h; omega
  · have := wd_ge hl; omega
theorem div_zero_iff {n k : Nat} (h : n < 18446744073709551616) : n / 256 ^ k = 0 ↔ wd n ≤ k := by
  have hp : 0 < 256 ^ k := Nat.pow_pos (by omega)
  rw [Nat.div_eq_zero_iff]
  constructor
  · intro h1
    apply Classical.byContradiction
    intro h2
    have := wd_ge (n := n) (k := k) (by omega)
    omega
  · intro h1
    right
    exact Nat.lt_of_lt_of_le (lt_wd h) (Nat.pow_le_pow_right (by omega) h1)

theorem be_length (k n : Nat) : (be k n).length = k := by
  induction k with
  | zero => rfl
  | succ k ih => simp [be, ih]
theorem be_get (k n j : Nat) (h : j < k) : (be k n).getD j 0 = UInt8.ofNat (n / 256 ^ (k - 1 - j)) := by
  induction k generalizing j with
  | zero => omega
  | succ k ih =>
    cases j with
    | zero => simp [be]
    | succ j =>
      have := ih j (by omega)
      simp only [be, List.getD_cons_succ]
      rw [this, show k + 1 - 1 - (j + 1) = k - 1 - j by omega]
theorem be_take (k n j : Nat) (h : j < k) : (be k n).take (j + 1) = (be k n).take j ++ [UInt8.ofNat (n / 256 ^ (k - 1 - j))] := by
  have hl : j < (be k n).length := by rw [be_length]; exact h
  rw [List.take_succ_eq_append_getElem hl, ← be_get k n j h]
  simp [List.getD, hl]
theorem num_length_pos (n : Nat) : 0 < (num n).length := by unfold num; split <;> simp
theorem num_length_le (n : Nat) : (num n).length ≤ 9 := by
  unfold num; split
  · simp
  · rw [List.length_cons, be_length]; have := wd_le n; omega

theorem un_nil : un [] = 0 := rfl
theorem un_snoc (l : List UInt8) (b : UInt8) : un (l ++ [b]) = un l * 256 + b.toNat := by unfold un; rw [List.foldl_append]; rfl
theorem rev_ind {motive : List UInt8 → Prop} (h0 : motive []) (h1 : ∀ l b, motive l → motive (l ++ [b])) (l : List UInt8) : motive l := by
  have h : ∀ m : List UInt8, motive m.reverse := by
    intro m
    induction m with
    | nil => exact h0
    | cons b m ih => rw [List.reverse_cons]; exact h1 _ _ ih
  have := h l.reverse
  rwa [List.reverse_reverse] at this
theorem un_lt (l : List UInt8) : un l < 256 ^ l.length := by
  refine rev_ind (motive := fun l => un l < 256 ^ l.length) ?_ ?_ l
  · simp [un]
  · intro l b ih
    rw [un_snoc, List.length_append, List.length_singleton, Nat.pow_succ]
    have := b.toNat_lt
    omega
theorem be_snoc (k n : Nat) : be (k + 1) n = be k (n / 256) ++ [UInt8.ofNat n] := by
  induction k with
  | zero => simp [be]
  | succ k ih =>
    rw [be, ih, be, List.cons_append, Nat.pow_succ, Nat.mul_comm, ← Nat.div_div_eq_div_mul]
theorem be_un (l : List UInt8) : be l.length (un l) = l := by
  refine rev_ind (motive := fun l => be l.length (un l) = l) ?_ ?_ l
  · rfl
  · intro l b ih
    have hb := b.toNat_lt
    rw [List.length_append, List.length_singleton, be_snoc, un_snoc, show (un l * 256 + b.toNat) / 256 = un l by omega, ih]
    congr 1
    have : UInt8.ofNat (un l * 256 + b.toNat) = b := by
      apply UInt8.toNat_inj.1
      rw [UInt8.toNat_ofNat']
      omega
    rw [this]
theorem un_be (k n : Nat) (h : n < 256 ^ k) : un (be k n) = n := by
  induction k generalizing n with
  | zero => simp at h; subst h; rfl
  | succ k ih =>
    rw [be_snoc, un_snoc, ih (n / 256) (by rw [Nat.pow_succ] at h; omega), UInt8.toNat_ofNat']
    omega

/-- A number taken at a place that is no more than the length: the number, the place behind it, the error. -/
def tn (l : List UInt8) (p : Nat) : Nat × Nat × Nat :=
  match l.drop p with
  | [] => (0, 0, 10)
  | b :: r =>
    if b.toNat < 248 then (b.toNat, p + 1, 0)
    else if r.length < b.toNat - 247 then (0, 0, 10)
    else if un (r.take (b.toNat - 247)) < 248 ∨ wd (un (r.take (b.toNat - 247))) ≠ b.toNat - 247 then (0, 0, 11)
    else (un (r.take (b.toNat - 247)), p + 1 + (b.toNat - 247), 0)
/-- .. at any place. -/
def tnI (l : List UInt8) (p : Int) : Nat × Nat × Nat := if p < 0 ∨ (l.length : Int) < p then (0, 0, 2) else tn l p.toNat

/-- Where a number is laid so, it is taken so. -/
theorem form_iff (b : UInt8) (l : List UInt8) (hb : ¬ b.toNat < 248) (hl : l.length = b.toNat - 247) : (num (un l) = b :: l) ↔ ¬ (un l < 248 ∨ wd (un l) ≠ b.toNat - 247) := by
  have hbl := b.toNat_lt
  have h0 : 0 < l.length := by omega
  unfold num
  constructor
  · intro h
    split at h
    · have := congrArg List.length h; simp at this; subst this; simp at h0
    · rename_i hn
      have h1 := (List.cons.inj h).1
      have h2 : (UInt8.ofNat (247 + wd (un l))).toNat = b.toNat := by rw [h1]
      rw [UInt8.toNat_ofNat'] at h2
      have := wd_le (un l)
      omega
  · intro h
    have hn : ¬ un l < 248 := fun e => h (.inl e)
    have hw : wd (un l) = b.toNat - 247 := Classical.byContradiction fun e => h (.inr e)
    rw [if_neg hn, hw, ← hl, be_un]
    congr 1
    apply UInt8.toNat_inj.1
    rw [UInt8.toNat_ofNat']
    omega
theorem un_lt64 (b : UInt8) (l : List UInt8) (hl : l.length = b.toNat - 247) : un l < 18446744073709551616 := by
  have h1 := un_lt l
  have hb := b.toNat_lt
  have h2 : 256 ^ l.length ≤ 256 ^ 8 := Nat.pow_le_pow_right (by omega) (by omega)
  simp only [Nat.reducePow] at h2
  omega

/-! ### There and back -/
theorem tn_append (pre l : List UInt8) : tn (pre ++ l) pre.length = let r := tn l 0; if r.2.2 = 0 then (r.1, pre.length + r.2.1, 0) else (0, 0, r.2.2) := by
  have h : (pre ++ l).drop pre.length = l := by simp
  unfold tn
  rw [h, List.drop_zero]
  cases l with
  | nil => rfl
  | cons b r =>
    simp only
    repeat' split
    all_goals simp_all
    all_goals omega
theorem tn_num (n : Nat) (h : n < 18446744073709551616) (post : List UInt8) : tn (num n ++ post) 0 = (n, (num n).length, 0) := by
  unfold tn num
  by_cases hn : n < 248
  · rw [if_pos hn]
    have hb : (UInt8.ofNat n).toNat = n := by rw [UInt8.toNat_ofNat']; omega
    simp only [List.drop_zero, List.cons_append, hb, if_pos hn]
    simp
  · rw [if_neg hn]
    have hw := wd_le n
    have hz : wd n ≠ 0 := fun e => by rw [wd_zero] at e; omega
    have hb : (UInt8.ofNat (247 + wd n)).toNat = 247 + wd n := by rw [UInt8.toNat_ofNat']; omega
    have ht : (be (wd n) n ++ post).take (wd n) = be (wd n) n := by
      rw [List.take_append_of_le_length (by rw [be_length]; exact Nat.le_refl _), List.take_of_length_le (by rw [be_length]; exact Nat.le_refl _)]
    simp only [List.drop_zero, List.cons_append, hb]
    rw [if_neg (by omega), if_neg (by rw [List.length_append, be_length]; omega), show 247 + wd n - 247 = wd n by omega, ht, un_be _ _ (lt_wd h), if_neg (by omega)]
    rw [List.length_cons, be_length]
    simp; omega
/-- What is taken was laid so. -/
theorem tn_form (l : List UInt8) (p n q : Nat) (h : tn l p = (n, q, 0)) : n < 18446744073709551616 ∧ p < q ∧ q ≤ l.length ∧ num n = (l.drop p).take (q - p) := by
  unfold tn at h
  cases hd : l.drop p with
  | nil => rw [hd] at h; simp at h
  | cons b r =>
    have hlen : l.length - p = r.length + 1 := by rw [← List.length_drop, hd]; rfl
    have hb := b.toNat_lt
    rw [hd] at h
    simp only at h
    split at h
    · rename_i h1
      simp only [Prod.mk.injEq, and_true] at h
      obtain ⟨rfl, rfl⟩ := h
      refine ⟨by omega, by omega, by omega, ?_⟩
      rw [show p + 1 - p = 1 by omega]
      simp [num, h1]
    · rename_i h1
      split at h
      · simp at h
      · rename_i h2
        split at h
        · simp at h
        · rename_i h3
          simp only [Prod.mk.injEq, and_true] at h
          obtain ⟨rfl, rfl⟩ := h
          have hl : (r.take (b.toNat - 247)).length = b.toNat - 247 := by rw [List.length_take]; omega
          refine ⟨un_lt64 b _ hl, by omega, by omega, ?_⟩
          rw [(form_iff b _ h1 hl).2 h3, show p + 1 + (b.toNat - 247) - p = (b.toNat - 247) + 1 by omega, List.take_succ_cons]
end Oct
end Go.Proofs.Ytbajgpbekanodaa
