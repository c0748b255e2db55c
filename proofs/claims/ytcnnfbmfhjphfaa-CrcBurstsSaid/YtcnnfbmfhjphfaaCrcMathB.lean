/- The mathematics of turned bits and of exclusive ors of texts, for CrcBursts, CrcLinear, CrcParts. Nothing of the program. -/
import Derived.Test.YtcnnfbmfhjphfaaCrcMath
namespace Go.Proofs.Ytcnnfbmfhjphfaa
namespace Crc

/-! ### Texts one behind the other -/
def catB (ss : List ByteArray) : ByteArray := ss.foldl (· ++ ·) ByteArray.empty
theorem catB_take (ss : List ByteArray) (k : Nat) (h : k < ss.length) : catB (ss.take (k + 1)) = catB (ss.take k) ++ ss.getD k ByteArray.empty := by
  unfold catB
  rw [List.take_succ_eq_append_getElem h, List.foldl_append]
  simp [List.getD, h]
theorem toList_append (a b : ByteArray) : (a ++ b).data.toList = a.data.toList ++ b.data.toList := by
  rw [ByteArray.data_append, Array.toList_append]
theorem catB_data (ss : List ByteArray) : (catB ss).data.toList = (ss.map (·.data.toList)).flatten := by
  have h : ∀ (l : List ByteArray) (a : ByteArray), (l.foldl (· ++ ·) a).data.toList = a.data.toList ++ (l.map (·.data.toList)).flatten := by
    intro l
    induction l with
    | nil => intro a; simp
    | cons x l ih => intro a; rw [List.foldl_cons, ih, toList_append]; simp
  have := h ss ByteArray.empty
  rw [show ByteArray.empty.data.toList = [] from rfl, List.nil_append] at this
  exact this
theorem sumL_cat (ss : List ByteArray) : sumL [catB ss] = sumL ss := by
  rw [sumL_eq ss, ← catB_data]; rfl
theorem catB_size (ss : List ByteArray) (h : wt ss ≤ 100000) : (catB ss).size ≤ 100000 ∧ ∀ s ∈ ss, s.size ≤ 100000 := by
  have h2 : ∀ l : List ByteArray, wt l ≤ 100000 → ((l.map (·.data.toList)).flatten).length ≤ wt l ∧ ∀ s ∈ l, s.size ≤ 100000 := by
    intro l
    induction l with
    | nil => intro _; simp
    | cons x l ih =>
      intro hx
      have e : wt (x :: l) = (min x.size 100000 + 1) + wt l := by simp [wt]
      rw [e] at hx ⊢
      obtain ⟨i1, i2⟩ := ih (by omega)
      have hxs : x.data.toList.length = x.size := by simp
      refine ⟨?_, ?_⟩
      · rw [List.map_cons, List.flatten_cons, List.length_append, hxs]; omega
      · intro s hs
        rcases List.mem_cons.1 hs with rfl | hs
        · omega
        · exact i2 s hs
  obtain ⟨i1, i2⟩ := h2 ss h
  refine ⟨?_, i2⟩
  have : (catB ss).data.toList.length = (catB ss).size := by simp
  rw [catB_data] at this
  omega

/-! ### One bit of a text turned -/
theorem xor_mul_pow (a b k : Nat) : (a ^^^ b) * 2 ^ k = (a * 2 ^ k) ^^^ (b * 2 ^ k) := by
  rw [← Nat.shiftLeft_eq, ← Nat.shiftLeft_eq, ← Nat.shiftLeft_eq, Nat.shiftLeft_xor_distrib]
theorem val_set (l : List UInt8) (i : Nat) (h : i < l.length) (b : UInt8) : val (l.set i (l[i] ^^^ b)) = val l ^^^ (b.toNat * 2 ^ (8 * i)) := by
  induction l generalizing i with
  | nil => simp at h
  | cons x l ih =>
    cases i with
    | zero =>
      simp only [List.set_cons_zero, List.getElem_cons_zero, val, UInt8.toNat_xor, Nat.mul_zero, Nat.pow_zero, Nat.mul_one]
      ac_rfl
    | succ i =>
      have hi : i < l.length := by simpa using h
      simp only [List.set_cons_succ, List.getElem_cons_succ, val]
      rw [ih i hi, show (256 : Nat) = 2 ^ 8 from rfl, xor_mul_pow, Nat.mul_assoc, ← Nat.pow_add, show 8 * i + 8 = 8 * (i + 1) by omega, Nat.xor_assoc]

/-- Is bit j of the window turned? -/
def turned (n pos dif j : Nat) : Bool := decide (dif / 2 ^ j % 2 = 1) && decide (pos + j < 8 * n)
/-- The bits that are turned, as a number. -/
def mask (n pos dif : Nat) : Nat → Nat
  | 0 => 0
  | j + 1 => if turned n pos dif j then mask n pos dif j ^^^ 2 ^ j else mask n pos dif j
/-- The text with its bits turned. -/
def flips (l : List UInt8) (pos dif : Nat) : Nat → List UInt8
  | 0 => l
  | j + 1 => if turned l.length pos dif j then
      (flips l pos dif j).set (pos / 8 + (pos % 8 + j) / 8) ((flips l pos dif j).getD (pos / 8 + (pos % 8 + j) / 8) 0 ^^^ UInt8.ofNat (2 ^ ((pos % 8 + j) % 8)))
    else flips l pos dif j
def met (n pos dif : Nat) : Nat → Bool
  | 0 => false
  | j + 1 => if turned n pos dif j then true else met n pos dif j

theorem flips_length (l : List UInt8) (pos dif j : Nat) : (flips l pos dif j).length = l.length := by
  induction j with
  | zero => rfl
  | succ j ih => unfold flips; split <;> simp [ih]
theorem mask_lt (n pos dif j : Nat) : mask n pos dif j < 2 ^ j := by
  induction j with
  | zero => simp [mask]
  | succ j ih =>
    have h2 : 2 ^ j < 2 ^ (j + 1) := Nat.pow_lt_pow_right (by omega) (by omega)
    unfold mask; split
    · exact Nat.xor_lt_two_pow (by omega) h2
    · omega
theorem mask_met (n pos dif j : Nat) : (mask n pos dif j = 0) ↔ met n pos dif j = false := by
  induction j with
  | zero => simp [mask, met]
  | succ j ih =>
    unfold mask met
    split
    · have h1 := mask_lt n pos dif j
      constructor
      · intro e
        have h2 : mask n pos dif j ^^^ 2 ^ j ^^^ 2 ^ j = 0 ^^^ 2 ^ j := by rw [e]
        rw [Nat.xor_assoc, Nat.xor_self, Nat.xor_zero, Nat.zero_xor] at h2
        omega
      · intro e; cases e
    · exact ih
theorem met_pos {n pos dif j : Nat} (h : met n pos dif j = true) : pos < 8 * n := by
  induction j with
  | zero => simp [met] at h
  | succ j ih =>
    unfold met at h
    split at h
    · rename_i ht
      simp only [turned, Bool.and_eq_true, decide_eq_true_eq] at ht
      omega
    · exact ih h
theorem flips_val (l : List UInt8) (pos dif : Nat) (j : Nat) : val (flips l pos dif j) = val l ^^^ (mask l.length pos dif j * 2 ^ pos) := by
  induction j with
  | zero => simp [flips, mask]
  | succ j ih =>
    unfold flips mask
    split
    · rename_i ht
      simp only [turned, Bool.and_eq_true, decide_eq_true_eq] at ht
      have hi : pos / 8 + (pos % 8 + j) / 8 < (flips l pos dif j).length := by rw [flips_length]; omega
      have hg : (flips l pos dif j).getD (pos / 8 + (pos % 8 + j) / 8) 0 = (flips l pos dif j)[pos / 8 + (pos % 8 + j) / 8] := by simp [List.getD, hi]
      have hb : (UInt8.ofNat (2 ^ ((pos % 8 + j) % 8))).toNat = 2 ^ ((pos % 8 + j) % 8) := by
        have : 2 ^ ((pos % 8 + j) % 8) < 2 ^ 8 := Nat.pow_lt_pow_right (by omega) (Nat.mod_lt _ (by omega))
        rw [UInt8.toNat_ofNat']; exact Nat.mod_eq_of_lt this
      rw [hg, val_set _ _ hi, ih, hb, ← Nat.pow_add, xor_mul_pow, ← Nat.pow_add, Nat.xor_assoc]
      rw [show (pos % 8 + j) % 8 + 8 * (pos / 8 + (pos % 8 + j) / 8) = j + pos by omega]
    · exact ih
/-- Turned bits within 32 of each other turn the sum. -/
theorem burst_sum (l : List UInt8) (pos dif : Nat) : (more 0 (flips l pos dif 32) = more 0 l) ↔ met l.length pos dif 32 = false := by
  have hx : val (flips l pos dif 32) ^^^ val l = mask l.length pos dif 32 * 2 ^ pos := by
    rw [flips_val]
    rw [show ∀ a b : Nat, (a ^^^ b) ^^^ a = b ^^^ (a ^^^ a) by intro a b; ac_rfl, Nat.xor_self, Nat.xor_zero]
  rw [← mask_met]
  refine burst (flips_length l pos dif 32) (mask_lt l.length pos dif 32) hx ?_
  intro hn
  have : met l.length pos dif 32 = true := by
    cases hm : met l.length pos dif 32
    · exact absurd ((mask_met _ _ _ _).2 hm) hn
    · rfl
  have := met_pos this
  rw [flips_length]; omega

theorem dif_bit {dif : Nat} (h : dif < 4294967296) (j : Nat) : bits BinOp.and IntKind.u32 ((dif : Int) / 2 ^ j) 1 = ((dif / 2 ^ j % 2 : Nat) : Int) := by
  have h1 : dif / 2 ^ j < 4294967296 := Nat.lt_of_le_of_lt (Nat.div_le_self _ _) h
  rw [show ((dif : Int) / 2 ^ j) = ((dif / 2 ^ j : Nat) : Int) by simp, and_one h1]

theorem met_yes {n pos dif j : Nat} (h : turned n pos dif j = true) : met n pos dif (j + 1) = true := by simp [met, h]
theorem met_no {n pos dif j : Nat} (h : turned n pos dif j = false) : met n pos dif (j + 1) = met n pos dif j := by simp [met, h]
theorem flips_no {l : List UInt8} {n pos dif j : Nat} (hn : l.length = n) (h : turned n pos dif j = false) : flips l pos dif (j + 1) = flips l pos dif j := by
  subst hn; simp [flips, h]
theorem flips_yes {l : List UInt8} {n pos dif j : Nat} (hn : l.length = n) (h : turned n pos dif j = true) (x : UInt8) (hi : pos / 8 + (pos % 8 + j) / 8 < (flips l pos dif j).length)
    (hx : x = (flips l pos dif j)[pos / 8 + (pos % 8 + j) / 8]) :
    flips l pos dif (j + 1) = (flips l pos dif j).set (pos / 8 + (pos % 8 + j) / 8) (x ^^^ UInt8.ofNat (2 ^ ((pos + j) % 8))) := by
  subst hn
  have e : (pos % 8 + j) % 8 = (pos + j) % 8 := by omega
  have hg : (flips l pos dif j).getD (pos / 8 + (pos % 8 + j) / 8) 0 = x := by rw [hx]; simp [List.getD, hi]
  rw [flips, if_pos h, hg, e]
theorem turn_bits (x : UInt8) (m : Nat) (hm : m < 8) : bits BinOp.xor IntKind.u8 ((x.toNat : Nat) : Int) (2 ^ m % 256) = (((x ^^^ UInt8.ofNat (2 ^ m)).toNat : Nat) : Int) := by
  have h1 : (2 : Nat) ^ m < 2 ^ 8 := Nat.pow_lt_pow_right (by omega) hm
  have h2 : ((2 : Int) ^ m % 256) = ((2 ^ m : Nat) : Int) := by
    have : ((2 : Int) ^ m) = ((2 ^ m : Nat) : Int) := by simp
    rw [this]
    generalize (2 : Nat) ^ m = q at h1
    omega
  have h3 : (UInt8.ofNat (2 ^ m)).toNat = 2 ^ m := by rw [UInt8.toNat_ofNat']; exact Nat.mod_eq_of_lt h1
  rw [h2, u8_xor_nat _ _ x.toNat_lt h1, UInt8.toNat_xor, h3]

end Crc
end Go.Proofs.Ytcnnfbmfhjphfaa
