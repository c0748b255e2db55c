import Derived.Laws.BitsAllLaws
namespace Go.Proofs.Ytbhadaiijcdlkaa
namespace Crc
/-- The polynomial. -/
def poly : Nat := 2197175160
/-- One step of the register. -/
def st (x : Nat) : Nat := (x / 2) ^^^ (if x % 2 = 1 then poly else 0)
/-- Some steps. -/
def sts : Nat → Nat → Nat
  | 0, x => x
  | k + 1, x => sts k (st x)
/-- A byte goes in. -/
def byte (r : Nat) (b : UInt8) : Nat := sts 8 (r ^^^ b.toNat)
/-- Bytes go in. -/
def raw (r : Nat) (l : List UInt8) : Nat := l.foldl byte r
/-- A text as a number, its first byte lowest. -/
def val : List UInt8 → Nat
  | [] => 0
  | b :: l => b.toNat ^^^ (val l * 256)

theorem sts_add (j k x : Nat) : sts (j + k) x = sts k (sts j x) := by
  induction j generalizing x with
  | zero => simp [sts]
  | succ j ih => rw [Nat.succ_add]; simp only [sts]; exact ih _

theorem sts_succ (k x : Nat) : sts (k + 1) x = st (sts k x) := by
  rw [sts_add k 1 x]; rfl

theorem xor_mod2 (a b : Nat) : (a ^^^ b) % 2 = (a % 2 + b % 2) % 2 := by
  have h := Nat.testBit_xor a b 0
  simp only [Nat.testBit_zero] at h
  rcases Nat.mod_two_eq_zero_or_one a with ha | ha <;> rcases Nat.mod_two_eq_zero_or_one b with hb | hb <;>
    rcases Nat.mod_two_eq_zero_or_one (a ^^^ b) with hc | hc <;> simp [ha, hb, hc] at h ⊢

theorem xor_div2 (a b : Nat) : (a ^^^ b) / 2 = (a / 2) ^^^ (b / 2) := by
  apply Nat.eq_of_testBit_eq
  intro i
  rw [← Nat.testBit_succ, Nat.testBit_xor, Nat.testBit_xor, Nat.testBit_succ, Nat.testBit_succ]

theorem st_xor (a b : Nat) : st (a ^^^ b) = st a ^^^ st b := by
  unfold st
  rw [xor_div2, xor_mod2]
  generalize hp : poly = p
  rcases Nat.mod_two_eq_zero_or_one a with ha | ha <;> rcases Nat.mod_two_eq_zero_or_one b with hb | hb <;> simp [ha, hb]
  · rw [Nat.xor_assoc]
  · rw [Nat.xor_assoc, Nat.xor_comm (b / 2) p, ← Nat.xor_assoc]
  · rw [show a / 2 ^^^ p ^^^ (b / 2 ^^^ p) = (a / 2 ^^^ b / 2) ^^^ (p ^^^ p) by ac_rfl, Nat.xor_self, Nat.xor_zero]

theorem sts_xor (k a b : Nat) : sts k (a ^^^ b) = sts k a ^^^ sts k b := by
  induction k generalizing a b with
  | zero => rfl
  | succ k ih => simp only [sts]; rw [st_xor, ih]

theorem st_double (a : Nat) : st (a * 2) = a := by
  unfold st; simp

theorem sts_shift (k a : Nat) : sts k (a * 2 ^ k) = a := by
  induction k generalizing a with
  | zero => simp [sts]
  | succ k ih => simp only [sts]; rw [Nat.pow_succ, ← Nat.mul_assoc, st_double]; exact ih a

theorem st_zero : st 0 = 0 := rfl
theorem sts_zero (k : Nat) : sts k 0 = 0 := by
  induction k with
  | zero => rfl
  | succ k ih => simp only [sts, st_zero]; exact ih

theorem raw_nil (r : Nat) : raw r [] = r := rfl
theorem raw_cons (r : Nat) (b : UInt8) (l : List UInt8) : raw r (b :: l) = raw (byte r b) l := rfl
theorem raw_append (r : Nat) (l m : List UInt8) : raw r (l ++ m) = raw (raw r l) m := by
  unfold raw; rw [List.foldl_append]

/-- The register is what the steps make of the text, as one number. -/
theorem raw_eq (r : Nat) (l : List UInt8) : raw r l = sts (8 * l.length) (r ^^^ val l) := by
  induction l generalizing r with
  | nil => simp [raw, val, sts]
  | cons b l ih =>
    rw [raw_cons, ih, byte, List.length_cons, Nat.mul_succ, Nat.add_comm, sts_add, val, ← Nat.xor_assoc, sts_xor 8 (r ^^^ b.toNat)]
    rw [show val l * 256 = val l * 2 ^ 8 by rfl, sts_shift]

theorem st_lt {x : Nat} (h : x < 4294967296) : st x < 4294967296 := by
  unfold st
  have : x / 2 ^^^ (if x % 2 = 1 then poly else 0) < 2 ^ 32 := by
    apply Nat.xor_lt_two_pow
    · omega
    · split <;> simp [poly]
  simpa using this
theorem sts_lt (k : Nat) {x : Nat} (h : x < 4294967296) : sts k x < 4294967296 := by
  induction k generalizing x with
  | zero => exact h
  | succ k ih => exact ih (st_lt h)
theorem xor_lt {a b : Nat} (ha : a < 4294967296) (hb : b < 4294967296) : a ^^^ b < 4294967296 := by
  have : a ^^^ b < 2 ^ 32 := Nat.xor_lt_two_pow (by omega) (by omega)
  simpa using this
theorem byte_lt {r : Nat} (b : UInt8) (h : r < 4294967296) : byte r b < 4294967296 :=
  sts_lt 8 (xor_lt h (by have := b.toNat_lt; omega))
theorem raw_lt {r : Nat} (l : List UInt8) (h : r < 4294967296) : raw r l < 4294967296 := by
  induction l generalizing r with
  | nil => exact h
  | cons b l ih => exact ih (byte_lt b h)

/-- The complement in 32 bits. -/
def comp (x : Nat) : Nat := 4294967295 - x
theorem comp_lt (x : Nat) : comp x < 4294967296 := by unfold comp; omega
theorem comp_comp {x : Nat} (h : x < 4294967296) : comp (comp x) = x := by unfold comp; omega
theorem comp_xor {x : Nat} (h : x < 4294967296) : comp x = x ^^^ 4294967295 := by
  unfold comp
  apply Nat.eq_of_testBit_eq
  intro i
  rw [Nat.testBit_xor, show 4294967295 - x = 2 ^ 32 - (x + 1) by omega, Nat.testBit_two_pow_sub_succ (by omega), show 4294967295 = 2 ^ 32 - 1 by rfl, Nat.testBit_two_pow_sub_one]
  by_cases hi : i < 32
  · simp [hi]
  · have : x.testBit i = false := Nat.testBit_lt_two_pow (Nat.lt_of_lt_of_le (show x < 2 ^ 32 by omega) (Nat.pow_le_pow_right (by omega) (by omega)))
    simp [hi, this]

def more (s : Nat) (l : List UInt8) : Nat := comp (raw (comp s) l)
def sum (l : List (List UInt8)) : Nat := l.foldl more 0

theorem more_lt (s : Nat) (l : List UInt8) : more s l < 4294967296 := comp_lt _
theorem more_append (s : Nat) (l m : List UInt8) : more (more s l) m = more s (l ++ m) := by
  unfold more; rw [comp_comp (raw_lt l (comp_lt s)), raw_append]
theorem more_nil {s : Nat} (h : s < 4294967296) : more s [] = s := by unfold more; rw [raw_nil, comp_comp h]
theorem foldl_more (l : List (List UInt8)) (s : Nat) (h : s < 4294967296) : l.foldl more s = more s l.flatten := by
  induction l generalizing s with
  | nil => exact (more_nil h).symm
  | cons a l ih => rw [List.foldl_cons, ih _ (more_lt _ _), List.flatten_cons, more_append]
theorem sum_eq (l : List (List UInt8)) : sum l = more 0 l.flatten := foldl_more l 0 (by omega)

/-! ### Linear -/
theorem val_lt : ∀ l : List UInt8, val l < 2 ^ (8 * l.length)
  | [] => by simp [val]
  | b :: l => by
    rw [val, List.length_cons]
    apply Nat.xor_lt_two_pow
    · exact Nat.lt_of_lt_of_le b.toNat_lt (Nat.pow_le_pow_right (by omega) (by omega))
    · have := val_lt l
      rw [show 8 * (l.length + 1) = 8 * l.length + 8 by omega, Nat.pow_add]; omega

theorem more_xor (l m : List UInt8) (h : l.length = m.length) : more 0 l ^^^ more 0 m = sts (8 * l.length) (val l ^^^ val m) := by
  unfold more
  rw [comp_xor (raw_lt _ (comp_lt 0)), comp_xor (raw_lt _ (comp_lt 0)), raw_eq, raw_eq, ← h]
  generalize 4294967295 = c
  rw [show ∀ a b : Nat, (a ^^^ c) ^^^ (b ^^^ c) = (a ^^^ b) ^^^ (c ^^^ c) by intro a b; ac_rfl, Nat.xor_self, Nat.xor_zero, ← sts_xor]
  generalize comp 0 = d
  rw [show ∀ a b : Nat, (d ^^^ a) ^^^ (d ^^^ b) = (a ^^^ b) ^^^ (d ^^^ d) by intro a b; ac_rfl, Nat.xor_self, Nat.xor_zero]

/-! ### No step but that of nothing comes to nothing -/
theorem st_pos {x : Nat} (h : x < 4294967296) (h0 : x ≠ 0) : st x ≠ 0 := by
  intro e
  unfold st at e
  by_cases hx : x % 2 = 1
  · rw [if_pos hx] at e
    have : x / 2 = poly := by
      have h2 : x / 2 ^^^ poly ^^^ poly = 0 ^^^ poly := by rw [e]
      rw [Nat.xor_assoc, Nat.xor_self, Nat.xor_zero, Nat.zero_xor] at h2
      exact h2
    unfold poly at this; omega
  · rw [if_neg hx, Nat.xor_zero] at e; omega
theorem sts_pos (k : Nat) {x : Nat} (h : x < 4294967296) (h0 : x ≠ 0) : sts k x ≠ 0 := by
  induction k generalizing x with
  | zero => exact h0
  | succ k ih => exact ih (st_lt h) (st_pos h h0)

theorem burst {l m : List UInt8} (h : l.length = m.length) {pos dif : Nat} (hb : dif < 4294967296) (hd : val l ^^^ val m = dif * 2 ^ pos)
    (hat : dif ≠ 0 → pos ≤ 8 * l.length) : (more 0 l = more 0 m) ↔ dif = 0 := by
  have hx := more_xor l m h
  rw [hd] at hx
  constructor
  · intro e
    rw [e, Nat.xor_self] at hx
    apply Classical.byContradiction
    intro hn
    have hle := hat hn
    rw [show 8 * l.length = pos + (8 * l.length - pos) by omega, sts_add, sts_shift] at hx
    exact sts_pos _ hb hn hx.symm
  · intro e
    rw [e, Nat.zero_mul, sts_zero] at hx
    have h2 : more 0 l ^^^ more 0 m ^^^ more 0 m = 0 ^^^ more 0 m := by rw [hx]
    rw [Nat.xor_assoc, Nat.xor_self, Nat.xor_zero, Nat.zero_xor] at h2
    exact h2

/-! ### The document's rounds -/
/-- The bit in comes to the lowest bit of the register. -/
def inBit (r : Nat) (bit : Nat) : Nat := if r % 2 = bit then r / 2 else (r / 2) ^^^ poly
def ins (b : Nat) : Nat → Nat → Nat
  | 0, r => r
  | k + 1, r => inBit (ins b k r) (b / 2 ^ k % 2)
theorem ins_eq (b r k : Nat) : sts k (r ^^^ b) = ins b k r ^^^ (b / 2 ^ k) := by
  induction k with
  | zero => simp [sts, ins]
  | succ k ih =>
    rw [sts_succ, ih, ins]
    generalize ins b k r = x
    rw [Nat.pow_succ, ← Nat.div_div_eq_div_mul]
    generalize b / 2 ^ k = y
    unfold st inBit
    rw [xor_div2, xor_mod2]
    generalize poly = p
    rcases Nat.mod_two_eq_zero_or_one x with ha | ha <;> rcases Nat.mod_two_eq_zero_or_one y with hb | hb <;> simp [ha, hb] <;> ac_rfl
theorem byte_ins (r : Nat) (b : UInt8) : byte r b = ins b.toNat 8 r := by
  unfold byte
  rw [ins_eq, show b.toNat / 2 ^ 8 = 0 by have := b.toNat_lt; omega, Nat.xor_zero]
theorem inBit_lt {r : Nat} (bit : Nat) (h : r < 4294967296) : inBit r bit < 4294967296 := by
  unfold inBit; split
  · omega
  · exact xor_lt (by omega) (by simp [poly])
theorem ins_lt (b k : Nat) {r : Nat} (h : r < 4294967296) : ins b k r < 4294967296 := by
  induction k with
  | zero => exact h
  | succ k ih => exact inBit_lt _ ih

/-! ### In the walk's words -/
theorem st_bits {y : Nat} (h : y < 4294967296) :
    bits BinOp.xor IntKind.u32 ((y : Int) / 2) (bits BinOp.and IntKind.u32 2197175160 (-bits BinOp.and IntKind.u32 (y : Int) 1 % 4294967296)) = ((st y : Nat) : Int) := by
  have h1 : bits BinOp.and IntKind.u32 (y : Int) 1 = ((y % 2 : Nat) : Int) := by
    have := u32_and_nat y 1 h (by omega)
    rw [Nat.and_one_is_mod] at this
    exact this
  rw [h1]
  unfold st
  rcases Nat.mod_two_eq_zero_or_one y with hy | hy
  · rw [hy, if_neg (by omega)]
    have h2 : bits BinOp.and IntKind.u32 2197175160 (-((0 : Nat) : Int) % 4294967296) = ((0 : Nat) : Int) := by decide
    rw [h2]
    have := u32_xor_nat (y / 2) 0 (by omega) (by omega)
    simpa using this
  · rw [hy, if_pos rfl]
    have h2 : bits BinOp.and IntKind.u32 2197175160 (-((1 : Nat) : Int) % 4294967296) = ((poly : Nat) : Int) := by decide
    rw [h2]
    have := u32_xor_nat (y / 2) poly (by omega) (by simp [poly])
    simpa using this
theorem xor_byte {y : Nat} (h : y < 4294967296) (b : UInt8) : bits BinOp.xor IntKind.u32 (y : Int) (((b.toNat : Nat) : Int) % 4294967296) = ((y ^^^ b.toNat : Nat) : Int) := by
  have hb := b.toNat_lt
  rw [show ((b.toNat : Nat) : Int) % 4294967296 = ((b.toNat : Nat) : Int) by omega]
  exact u32_xor_nat y b.toNat h (by omega)
theorem comp_bits {x : Nat} (h : x < 4294967296) : bits BinOp.xor IntKind.u32 IntKind.u32.max (x : Int) = ((comp x : Nat) : Int) := by
  rw [show IntKind.u32.max = ((4294967295 : Nat) : Int) from rfl, u32_xor_nat 4294967295 x (by omega) h, comp_xor h, Nat.xor_comm]
theorem take_snoc (s : ByteArray) (k : Nat) (h : k < s.size) : s.data.toList.take (k + 1) = s.data.toList.take k ++ [s[k]] := by
  rw [List.take_succ_eq_append_getElem (by simpa using h)]; rfl
theorem raw_snoc (r : Nat) (s : ByteArray) (k : Nat) (h : k < s.size) : raw r (s.data.toList.take (k + 1)) = byte (raw r (s.data.toList.take k)) s[k] := by
  rw [take_snoc s k h, raw_append]; rfl
/-- The sum of texts. -/
def sumL (ss : List ByteArray) : Nat := ss.foldl (fun r s => more r s.data.toList) 0
theorem sumL_take (ss : List ByteArray) (k : Nat) (h : k < ss.length) : sumL (ss.take (k + 1)) = more (sumL (ss.take k)) (ss.getD k ByteArray.empty).data.toList := by
  unfold sumL
  rw [List.take_succ_eq_append_getElem h, List.foldl_append]
  simp [List.getD, h]
theorem sumL_lt (ss : List ByteArray) : sumL ss < 4294967296 := by
  unfold sumL
  rcases List.eq_nil_or_concat ss with rfl | ⟨l, a, rfl⟩
  · simp
  · rw [List.concat_eq_append, List.foldl_append]; exact more_lt _ _
theorem sumL_eq (ss : List ByteArray) : sumL ss = more 0 (ss.map (·.data.toList)).flatten := by
  rw [← foldl_more _ 0 (by omega), List.foldl_map]; rfl
theorem and_one {y : Nat} (h : y < 4294967296) : bits BinOp.and IntKind.u32 (y : Int) 1 = ((y % 2 : Nat) : Int) := by
  have := u32_and_nat y 1 h (by omega)
  rw [Nat.and_one_is_mod] at this
  exact this
theorem bit_and {b : Nat} (hb : b < 256) (k : Nat) : bits BinOp.and IntKind.u32 ((b : Int) / 2 ^ k % 4294967296) 1 = ((b / 2 ^ k % 2 : Nat) : Int) := by
  have h1 : b / 2 ^ k < 4294967296 := Nat.lt_of_le_of_lt (Nat.div_le_self _ _) (by omega)
  have h2 : ((b : Int) / 2 ^ k % 4294967296) = ((b / 2 ^ k : Nat) : Int) := by
    rw [show ((b : Int) / 2 ^ k) = ((b / 2 ^ k : Nat) : Int) by simp]
    generalize b / 2 ^ k = q at h1
    omega
  rw [h2, and_one h1]
theorem in_yes {y b k : Nat} (hy : y < 4294967296) (hb : b < 256)
    (h : (bits BinOp.and IntKind.u32 (y : Int) 1 != bits BinOp.and IntKind.u32 ((b : Int) / 2 ^ k % 4294967296) 1) = true) :
    bits BinOp.xor IntKind.u32 ((y : Int) / 2) 2197175160 = ((inBit y (b / 2 ^ k % 2) : Nat) : Int) := by
  rw [and_one hy, bit_and hb] at h
  have hn : ¬ y % 2 = b / 2 ^ k % 2 := by intro e; rw [e] at h; simp at h
  unfold inBit
  rw [if_neg hn]
  have := u32_xor_nat (y / 2) poly (by omega) (by simp [poly])
  simpa [poly] using this
theorem in_no {y b k : Nat} (hy : y < 4294967296) (hb : b < 256)
    (h : (bits BinOp.and IntKind.u32 (y : Int) 1 != bits BinOp.and IntKind.u32 ((b : Int) / 2 ^ k % 4294967296) 1) = false) :
    (y : Int) / 2 = ((inBit y (b / 2 ^ k % 2) : Nat) : Int) := by
  rw [and_one hy, bit_and hb] at h
  have hn : y % 2 = b / 2 ^ k % 2 := by
    have h2 := h
    simp only [bne_eq_false_iff_eq] at h2
    omega
  unfold inBit
  rw [if_pos hn]
  simp
/-- The register over texts. -/
def rawL (r : Nat) (ss : List ByteArray) : Nat := ss.foldl (fun r s => raw r s.data.toList) r
theorem rawL_take (r : Nat) (ss : List ByteArray) (k : Nat) (h : k < ss.length) : rawL r (ss.take (k + 1)) = raw (rawL r (ss.take k)) (ss.getD k ByteArray.empty).data.toList := by
  unfold rawL
  rw [List.take_succ_eq_append_getElem h, List.foldl_append]
  simp [List.getD, h]
theorem rawL_lt {r : Nat} (h : r < 4294967296) (ss : List ByteArray) : rawL r ss < 4294967296 := by
  unfold rawL
  induction ss generalizing r with
  | nil => exact h
  | cons a l ih => exact ih (raw_lt _ h)
theorem rawL_comp (ss : List ByteArray) (s : Nat) (h : s < 4294967296) : rawL (comp s) ss = comp (ss.foldl (fun r s => more r s.data.toList) s) := by
  unfold rawL
  induction ss generalizing s with
  | nil => rfl
  | cons a l ih =>
    rw [List.foldl_cons, List.foldl_cons, ← ih _ (more_lt _ _)]
    unfold more
    rw [comp_comp (raw_lt _ (comp_lt s))]
theorem rawL_sum (ss : List ByteArray) : comp (rawL 4294967295 ss) = sumL ss := by
  have := rawL_comp ss 0 (by omega)
  rw [show comp 0 = 4294967295 from rfl] at this
  rw [this]
  exact comp_comp (sumL_lt ss)
theorem if_min (n : Nat) : (if 100000 < (n : Int) then (100000 : Int) else (n : Int)) = ((min n 100000 : Nat) : Int) := by
  split <;> omega
/-- How much texts weigh. -/
def wt (ss : List ByteArray) : Nat := (ss.map fun s => min s.size 100000 + 1).sum
def smallB (ss : List ByteArray) : Bool := decide (wt ss ≤ 100000)
theorem wt_take (ss : List ByteArray) (k : Nat) (h : k < ss.length) : wt (ss.take (k + 1)) = wt (ss.take k) + (min (ss.getD k ByteArray.empty).size 100000 + 1) := by
  unfold wt
  rw [List.take_succ_eq_append_getElem h, List.map_append, List.sum_append]
  simp [List.getD, h]
theorem wt_le (ss : List ByteArray) (k : Nat) : wt (ss.take k) ≤ wt ss := by
  unfold wt
  conv => rhs; rw [← List.take_append_drop k ss, List.map_append, List.sum_append]
  omega
theorem small_no (ss : List ByteArray) (k : Nat) (h : 100000 < wt (ss.take k)) : smallB ss = false := by
  have := wt_le ss k
  unfold smallB; simp; omega
theorem small_yes (ss : List ByteArray) (h : wt ss ≤ 100000) : smallB ss = true := by unfold smallB; simp [h]
end Crc
end Go.Proofs.Ytbhadaiijcdlkaa
