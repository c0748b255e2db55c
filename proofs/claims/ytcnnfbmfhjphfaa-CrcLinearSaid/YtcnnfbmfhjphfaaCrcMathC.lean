/- The mathematics of the exclusive or of three texts, for CrcLinear. Nothing of the program. -/
import Derived.Test.YtcnnfbmfhjphfaaCrcMathB
namespace Go.Proofs.Ytcnnfbmfhjphfaa
namespace Crc

/-! ### The exclusive or of three texts -/
def xor3 (a b c : List UInt8) (k : Nat) : List UInt8 := (List.range k).map fun i => a.getD i 0 ^^^ b.getD i 0 ^^^ c.getD i 0
theorem xor3_length (a b c : List UInt8) (k : Nat) : (xor3 a b c k).length = k := by simp [xor3]
theorem xor3_succ (a b c : List UInt8) (k : Nat) : xor3 a b c (k + 1) = xor3 a b c k ++ [a.getD k 0 ^^^ b.getD k 0 ^^^ c.getD k 0] := by
  simp [xor3, List.range_succ]
theorem xor3_bits (x y z : UInt8) : bits BinOp.xor IntKind.u8 (bits BinOp.xor IntKind.u8 ((x.toNat : Nat) : Int) ((y.toNat : Nat) : Int)) ((z.toNat : Nat) : Int) = (((x ^^^ y ^^^ z).toNat : Nat) : Int) := by
  rw [u8_xor_nat _ _ x.toNat_lt y.toNat_lt, ← UInt8.toNat_xor, u8_xor_nat _ _ (x ^^^ y).toNat_lt z.toNat_lt, ← UInt8.toNat_xor]
theorem xor3_set (a b c : List UInt8) (k n : Nat) (h : k < n) (x : UInt8) (hx : x = a.getD k 0 ^^^ b.getD k 0 ^^^ c.getD k 0) :
    (xor3 a b c k ++ List.replicate (n - k) 0).set k x = xor3 a b c (k + 1) ++ List.replicate (n - (k + 1)) 0 := by
  rw [xor3_succ, List.append_assoc, List.set_append_right _ _ (by rw [xor3_length]; omega), xor3_length, Nat.sub_self, show n - k = (n - (k + 1)) + 1 by omega, List.replicate_succ, List.set_cons_zero, hx]
  rfl
theorem getD_take {a1 a : ByteArray} {n : Nat} (h : a1.data.toList = a.data.toList.take n) (k : Nat) (hk : k < a1.size) (hn : k < n) : a1[k] = a.data.toList.getD k 0 := by
  have h1 : a1[k] = a1.data.toList.getD k 0 := by
    have : k < a1.data.toList.length := by simpa using hk
    simp only [List.getD, List.getElem?_eq_getElem this, Option.getD_some]
    rfl
  rw [h1, h]
  simp [List.getD, hn]
theorem val_append (l m : List UInt8) : val (l ++ m) = val l ^^^ (val m * 2 ^ (8 * l.length)) := by
  induction l with
  | nil => simp [val]
  | cons x l ih =>
    rw [List.cons_append, val, ih, val, show (256 : Nat) = 2 ^ 8 from rfl, xor_mul_pow, Nat.mul_assoc, ← Nat.pow_add, List.length_cons, show 8 * l.length + 8 = 8 * (l.length + 1) by omega, Nat.xor_assoc]
theorem val_take (l : List UInt8) (k : Nat) (h : k < l.length) : val (l.take (k + 1)) = val (l.take k) ^^^ ((l.getD k 0).toNat * 2 ^ (8 * k)) := by
  rw [List.take_succ_eq_append_getElem h, val_append]
  simp [val, List.getD, h, Nat.min_eq_left (Nat.le_of_lt h)]
theorem val_xor3 (a b c : List UInt8) (k : Nat) (ha : k ≤ a.length) (hb : k ≤ b.length) (hc : k ≤ c.length) :
    val (xor3 a b c k) = val (a.take k) ^^^ val (b.take k) ^^^ val (c.take k) := by
  induction k with
  | zero => simp [xor3, val]
  | succ k ih =>
    rw [xor3_succ, val_append, ih (by omega) (by omega) (by omega), val_take a k (by omega), val_take b k (by omega), val_take c k (by omega), xor3_length]
    simp only [val, UInt8.toNat_xor, Nat.zero_mul, Nat.xor_zero, xor_mul_pow]
    ac_rfl
theorem linear (a b c : List UInt8) (n : Nat) (ha : n ≤ a.length) (hb : n ≤ b.length) (hc : n ≤ c.length) :
    more 0 (a.take n) ^^^ more 0 (b.take n) ^^^ more 0 (c.take n) ^^^ more 0 (xor3 a b c n) = 0 := by
  have la : (a.take n).length = n := by simp; omega
  have lb : (b.take n).length = n := by simp; omega
  have lc : (c.take n).length = n := by simp; omega
  have h1 := more_xor (a.take n) (b.take n) (by omega)
  have h2 := more_xor (c.take n) (xor3 a b c n) (by rw [xor3_length]; omega)
  rw [val_xor3 a b c n ha hb hc] at h2
  rw [show ∀ p q r s : Nat, p ^^^ q ^^^ r ^^^ s = (p ^^^ q) ^^^ (r ^^^ s) by intro p q r s; ac_rfl, h1, h2]
  rw [show ∀ p q r : Nat, r ^^^ (p ^^^ q ^^^ r) = (p ^^^ q) ^^^ (r ^^^ r) by intro p q r; ac_rfl, Nat.xor_self, Nat.xor_zero, la, lc, Nat.xor_self]
end Crc
end Go.Proofs.Ytcnnfbmfhjphfaa
