/- The order of numbers as bytes; texts and lists taken (layer 1). Nothing of the program. -/
import Derived.Test.YtbajgpbekanodaaOctMath
import GoSem.Op.String
namespace Go.Proofs.Ytbajgpbekanodaa
namespace Oct

/-! ### The order -/
theorem be_mod (k n : Nat) : be k (n % 256 ^ k) = be k n := by
  have gen : ∀ j k, j ≤ k → be j (n % 256 ^ k) = be j n := by
    intro j
    induction j with
    | zero => intro k _; rfl
    | succ j ih =>
      intro k hjk
      rw [be, be, ih k (by omega)]
      congr 1
      have h1 : 256 ^ k = 256 ^ j * 256 ^ (k - j) := by rw [← Nat.pow_add]; congr 1; omega
      have h2 : n % 256 ^ k / 256 ^ j = n / 256 ^ j % 256 ^ (k - j) := by rw [h1, Nat.mod_mul_right_div_self]
      rw [h2]
      apply UInt8.toNat_inj.1
      rw [UInt8.toNat_ofNat', UInt8.toNat_ofNat']
      have h3 : 256 ^ (k - j) = 256 * 256 ^ (k - j - 1) := by rw [← Nat.pow_succ']; congr 1; omega
      rw [h3]
      show n / 256 ^ j % (256 * 256 ^ (k - j - 1)) % 256 = _
      rw [Nat.mod_mul_right_mod]
  exact gen k k (Nat.le_refl _)
theorem ofNat_lt {a b : Nat} (ha : a < 256) (hb : b < 256) : (UInt8.ofNat a < UInt8.ofNat b) ↔ a < b := by
  rw [UInt8.lt_iff_toNat_lt, UInt8.toNat_ofNat', UInt8.toNat_ofNat']
  omega
theorem ofNat_eq {a b : Nat} (ha : a < 256) (hb : b < 256) : (UInt8.ofNat a = UInt8.ofNat b) ↔ a = b := by
  rw [← UInt8.toNat_inj, UInt8.toNat_ofNat', UInt8.toNat_ofNat']
  omega
theorem less_cons (a b : Nat) (x y : List UInt8) (ha : a < 256) (hb : b < 256) :
    Op.bytesLess (UInt8.ofNat a :: x) (UInt8.ofNat b :: y) = (decide (a < b) || (decide (a = b) && Op.bytesLess x y)) := by
  have h1 : decide (UInt8.ofNat a < UInt8.ofNat b) = decide (a < b) := by rw [decide_eq_decide]; exact ofNat_lt ha hb
  have h2 : (UInt8.ofNat a == UInt8.ofNat b) = decide (a = b) := by
    by_cases h : a = b
    · subst h; simp
    · simp [h, ofNat_eq ha hb]
  simp only [Op.bytesLess, h1, h2]
theorem less_be (k a b : Nat) (ha : a < 256 ^ k) (hb : b < 256 ^ k) : Op.bytesLess (be k a) (be k b) = decide (a < b) := by
  induction k generalizing a b with
  | zero => simp at ha hb; subst ha hb; rfl
  | succ k ih =>
    have hp : 0 < 256 ^ k := Nat.pow_pos (by omega)
    rw [Nat.pow_succ] at ha hb
    have h1 : a / 256 ^ k < 256 := (Nat.div_lt_iff_lt_mul hp).2 (by rw [Nat.mul_comm]; exact ha)
    have h2 : b / 256 ^ k < 256 := (Nat.div_lt_iff_lt_mul hp).2 (by rw [Nat.mul_comm]; exact hb)
    rw [be, be, less_cons _ _ _ _ h1 h2, ← be_mod k a, ← be_mod k b, ih _ _ (Nat.mod_lt _ hp) (Nat.mod_lt _ hp)]
    have ea := Nat.div_add_mod a (256 ^ k)
    have eb := Nat.div_add_mod b (256 ^ k)
    have ma := Nat.mod_lt a hp
    have mb := Nat.mod_lt b hp
    generalize a / 256 ^ k = p at *
    generalize b / 256 ^ k = q at *
    generalize a % 256 ^ k = r at *
    generalize b % 256 ^ k = s at *
    generalize 256 ^ k = t at *
    subst ea eb
    rw [Bool.eq_iff_iff]
    simp only [Bool.or_eq_true, decide_eq_true_eq, Bool.and_eq_true]
    constructor
    · rintro (h | ⟨rfl, h⟩)
      · have : t * (p + 1) ≤ t * q := Nat.mul_le_mul_left t h
        rw [Nat.mul_succ] at this
        omega
      · omega
    · intro h
      rcases Nat.lt_trichotomy p q with hpq | hpq | hpq
      · exact .inl hpq
      · subst hpq; exact .inr ⟨rfl, by omega⟩
      · exfalso
        have : t * (q + 1) ≤ t * p := Nat.mul_le_mul_left t hpq
        rw [Nat.mul_succ] at this
        omega
theorem wd_mono {a b : Nat} (hb : b < 18446744073709551616) (h : a ≤ b) : wd a ≤ wd b := by
  apply Classical.byContradiction
  intro hn
  have h1 := wd_ge (n := a) (k := wd b) (by omega)
  have h2 := lt_wd hb
  omega
theorem less_num (a b : Nat) (ha : a < 18446744073709551616) (hb : b < 18446744073709551616) : Op.bytesLess (num a) (num b) = decide (a < b) := by
  have wa := wd_le a
  have wb := wd_le b
  unfold num
  by_cases h1 : a < 248 <;> by_cases h2 : b < 248
  · rw [if_pos h1, if_pos h2, less_cons _ _ _ _ (by omega) (by omega)]
    simp [Op.bytesLess]
  · have hw : wd b ≠ 0 := fun e => by rw [wd_zero] at e; omega
    rw [if_pos h1, if_neg h2, less_cons _ _ _ _ (by omega) (by omega)]
    have : a < 247 + wd b := by omega
    simp [this]; omega
  · have hw : wd a ≠ 0 := fun e => by rw [wd_zero] at e; omega
    rw [if_neg h1, if_pos h2, less_cons _ _ _ _ (by omega) (by omega)]
    have e1 : decide (247 + wd a < b) = false := by simp; omega
    have e2 : decide (247 + wd a = b) = false := by simp; omega
    have e3 : decide (a < b) = false := by simp; omega
    rw [e1, e2, e3]; rfl
  · rw [if_neg h1, if_neg h2, less_cons _ _ _ _ (by omega) (by omega)]
    rcases Nat.lt_trichotomy (wd a) (wd b) with h | h | h
    · have hab : a < b := Classical.byContradiction fun e => by have := wd_mono (a := b) (b := a) ha (by omega); omega
      have e1 : decide (247 + wd a < 247 + wd b) = true := by simp; omega
      rw [e1]; simp [hab]
    · rw [h, less_be _ _ _ (by rw [← h]; exact lt_wd ha) (lt_wd hb)]
      simp
    · have hab : ¬ a < b := fun e => by have := wd_mono (a := a) (b := b) hb (by omega); omega
      have e1 : decide (247 + wd a < 247 + wd b) = false := by simp; omega
      have e2 : decide (247 + wd a = 247 + wd b) = false := by simp; omega
      rw [e1, e2]; simp [hab]
theorem num_prefix {a b : Nat} (ha : a < 18446744073709551616) (hb : b < 18446744073709551616) (h : (num b).take (num a).length = num a) : a = b := by
  have h1 := tn_num a ha ((num b).drop (num a).length)
  have h2 := tn_num b hb []
  have h3 : num a ++ (num b).drop (num a).length = num b := by
    have := List.take_append_drop (num a).length (num b)
    rw [h] at this; exact this
  rw [List.append_nil] at h2
  rw [h3, h2] at h1
  exact (Prod.mk.inj h1).1.symm
theorem num_inj {a b : Nat} (ha : a < 18446744073709551616) (hb : b < 18446744073709551616) (h : num a = num b) : a = b :=
  num_prefix ha hb (by rw [h, List.take_length])

theorem shr_byte (n k : Nat) : (n : Int) / 2 ^ (8 * k) % 256 = (((UInt8.ofNat (n / 256 ^ k)).toNat : Nat) : Int) := by
  have h : (2 : Int) ^ (8 * k) = ((256 ^ k : Nat) : Int) := by
    have : (2 : Nat) ^ (8 * k) = 256 ^ k := by rw [Nat.pow_mul]
    rw [← this]; simp
  rw [UInt8.toNat_ofNat', h]
  simp

theorem mod_byte (x : Nat) : (x : Int) % 256 = (((UInt8.ofNat x).toNat : Nat) : Int) := by
  rw [UInt8.toNat_ofNat']; simp

theorem wrap_quo {q : Nat} (h : q < 18446744073709551616) : IntKind.u64.wrap ((q : Int) / 256) = (q : Int) / 256 := by
  simp only [IntKind.wrap, IntKind.bits, IntKind.signed]
  simp
  omega

theorem wrap_small {q : Nat} (h : q < 18446744073709551616) : IntKind.u64.wrap (q : Int) = (q : Int) := by
  simp only [IntKind.wrap, IntKind.bits, IntKind.signed]
  simp
  omega

/-! ### A number taken, step by step -/
theorem drop_at (l : List UInt8) (p : Nat) (h : p < l.length) : l.drop p = l[p] :: l.drop (p + 1) := (List.drop_eq_getElem_cons h)
theorem tn_end (l : List UInt8) (p : Nat) (h : l.length ≤ p) : tn l p = (0, 0, 10) := by
  unfold tn; rw [List.drop_eq_nil_of_le h]
theorem tn_small (l : List UInt8) (p : Nat) (h : p < l.length) (hb : l[p].toNat < 248) : tn l p = (l[p].toNat, p + 1, 0) := by
  unfold tn; rw [drop_at l p h]; simp only; rw [if_pos hb]
theorem tn_big (l : List UInt8) (p k : Nat) (h : p < l.length) (hb : ¬ l[p].toNat < 248) (hk : k = l[p].toNat - 247) :
    tn l p = if l.length - (p + 1) < k then (0, 0, 10) else if un ((l.drop (p + 1)).take k) < 248 ∨ wd (un ((l.drop (p + 1)).take k)) ≠ k then (0, 0, 11) else (un ((l.drop (p + 1)).take k), p + 1 + k, 0) := by
  unfold tn
  rw [drop_at l p h]
  simp only [if_neg hb, List.length_drop, ← hk]
/-- Some bytes from a place on, noughts behind the end. -/
def pad (l : List UInt8) (q i : Nat) : List UInt8 := ((l.drop q) ++ List.replicate 8 0).take i
theorem pad_length (l : List UInt8) (q i : Nat) (h : i ≤ 8) : (pad l q i).length = i := by
  unfold pad; rw [List.length_take, List.length_append, List.length_replicate]; omega
theorem pad_in (l : List UInt8) (q i : Nat) (h : q + i < l.length) : pad l q (i + 1) = pad l q i ++ [l[q + i]] := by
  unfold pad
  have hl : i < (l.drop q ++ List.replicate 8 (0 : UInt8)).length := by rw [List.length_append, List.length_drop]; omega
  rw [List.take_succ_eq_append_getElem hl]
  congr 1
  rw [List.getElem_append_left (by rw [List.length_drop]; omega), List.getElem_drop]
theorem pad_out (l : List UInt8) (q i : Nat) (h : l.length ≤ q + i) (hi : i < 8) : pad l q (i + 1) = pad l q i ++ [0] := by
  unfold pad
  have hl : i < (l.drop q ++ List.replicate 8 (0 : UInt8)).length := by rw [List.length_append, List.length_replicate]; omega
  rw [List.take_succ_eq_append_getElem hl]
  congr 1
  rw [List.getElem_append_right (by rw [List.length_drop]; omega), List.getElem_replicate]
theorem pad_whole (l : List UInt8) (q k : Nat) (h : k ≤ l.length - q) : pad l q k = (l.drop q).take k := by
  unfold pad; rw [List.take_append_of_le_length (by rw [List.length_drop]; exact h)]
theorem or_byte {n : Nat} (h : n < 72057594037927936) (b : Nat) (hb : b < 256) : bits BinOp.or IntKind.u64 ((n : Int) * 256) (b : Int) = ((n * 256 + b : Nat) : Int) := by
  have h1 : n * 256 ||| b = n * 256 + b := by
    have := Nat.two_pow_add_eq_or_of_lt (b := b) (i := 8) (by omega) n
    rw [Nat.mul_comm, show (256 : Nat) = 2 ^ 8 from rfl]
    exact this.symm
  have h2 := u64_or_nat (n * 256) b (by omega) (by omega)
  rw [h1, show ((n * 256 : Nat) : Int) = (n : Int) * 256 by omega] at h2
  exact h2

/-! ### In strings -/
def numB (n : Nat) : ByteArray := ⟨(num n).toArray⟩
theorem numB_list (n : Nat) : (numB n).data.toList = num n := rfl
theorem numB_size (n : Nat) : (numB n).size = (num n).length := by simp [numB, ByteArray.size]
theorem numB_le (n : Nat) : (numB n).size ≤ 9 := by rw [numB_size]; exact num_length_le n
def textB (s : ByteArray) : ByteArray := numB s.size ++ s
def tnB (s : ByteArray) (p : Int) : Nat × Nat × Nat := tnI s.data.toList p
/-- A text taken. -/
def ttB (s : ByteArray) (p : Int) : ByteArray × Nat × Nat :=
  let r := tnB s p
  if r.2.2 ≠ 0 then (ByteArray.empty, 0, r.2.2)
  else if s.size - r.2.1 < r.1 then (ByteArray.empty, 0, 10)
  else (s.extract r.2.1 (r.2.1 + r.1), r.2.1 + r.1, 0)
/-- Texts taken, so many, onto what has been taken. -/
def tlF (s : ByteArray) : Nat → Nat → List ByteArray → List ByteArray × Nat × Nat
  | 0, p, acc => (acc, p, 0)
  | n + 1, p, acc =>
    let r := ttB s p
    if r.2.2 ≠ 0 then ([], 0, r.2.2) else tlF s n r.2.1 (acc ++ [r.1])
def tlB (s : ByteArray) (p : Int) : List ByteArray × Nat × Nat :=
  let r := tnB s p
  if r.2.2 ≠ 0 then ([], 0, r.2.2) else tlF s r.1 r.2.1 []
def listB (l : List ByteArray) : ByteArray := l.foldl (fun b s => b ++ textB s) (numB l.length)

theorem tnB_le (s : ByteArray) (p : Int) : (tnB s p).2.1 ≤ s.size ∧ (tnB s p).1 < 18446744073709551616 := by
  have hl : s.data.toList.length = s.size := by simp
  unfold tnB tnI
  split
  · simp
  · cases h : (tn s.data.toList p.toNat) with
    | mk n r =>
      cases r with
      | mk q e =>
        by_cases he : e = 0
        · subst he
          have := tn_form _ _ _ _ h
          simp only
          omega
        · have : n = 0 ∧ q = 0 := by
            unfold tn at h
            cases hd : s.data.toList.drop p.toNat with
            | nil => rw [hd] at h; simp at h; omega
            | cons b r =>
              rw [hd] at h
              simp only at h
              repeat' split at h
              all_goals simp only [Prod.mk.injEq] at h
              all_goals omega
          simp only
          omega
theorem ttB_le (s : ByteArray) (p : Int) : (ttB s p).2.1 ≤ s.size ∧ (ttB s p).1.size ≤ s.size := by
  have := tnB_le s p
  unfold ttB
  simp only
  repeat' split
  · simp
  · simp
  · simp only [ByteArray.size_extract]; omega
end Oct
end Go.Proofs.Ytbajgpbekanodaa
