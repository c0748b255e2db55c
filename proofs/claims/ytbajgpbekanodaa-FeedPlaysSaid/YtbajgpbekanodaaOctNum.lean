/- The walks over octets.width, octets.Number and the document's Number: what each call returns. No condition but the kinds' own bounds. -/
import Derived.Test.YtbajgpbekanodaaProg
import Derived.WalkKit
import Derived.WalkSpells
import Derived.WalkLawsBesides
import Derived.Lib.Hide
import Derived.Laws.IdiomStrings
import Derived.WideShapes
import Derived.Maps.AppendAt
import Derived.Test.YtbajgpbekanodaaOctMathB
import Derived.Test.YtbajgpbekanodaaLib
namespace Go.Proofs.Ytbajgpbekanodaa
open Go.RowKit

theorem wd_step {n : Nat} (hn : n < 18446744073709551616) (h : 256 ≤ n) : Oct.wd n = 1 + Oct.wd (n / 256) := by
  have h1 := Oct.lt_wd (n := n / 256) (by omega)
  refine Oct.wd_of hn ?_ fun j hj => ?_
  · rw [Nat.add_comm, Nat.pow_succ]; omega
  · cases j with
    | zero => simp; omega
    | succ j =>
      have := Oct.wd_ge (n := n / 256) (k := j) (by omega)
      rw [Nat.pow_succ]; omega
theorem wd_bitLen (n : Nat) (h : n < 18446744073709551616) : (Lib.bitLen n + 7) / 8 = Oct.wd n := by
  induction n using Nat.strongRecOn with
  | _ n ih =>
    by_cases h1 : n < 256
    · have h2 := Lib.bitLen_le8 ⟨n, h1⟩
      simp only at h2
      by_cases h0 : n = 0
      · subst h0; rfl
      · have h3 := Lib.bitLen_half n h0 (by omega)
        have : Oct.wd n = 1 := by unfold Oct.wd; rw [if_neg h0, if_pos h1]
        omega
    · have h2 := ih (n / 256) (by omega) (by omega)
      have h3 := Lib.bitLen_shift8 n (by omega) h
      have h4 := wd_step (n := n) h (by omega)
      omega

set_option maxHeartbeats 400000 in
theorem width_any (n : Nat) (hn : n < 18446744073709551616) (w : World) :
    Calls Try.prog 101 #[.int .u64 n] w fun e w' => e = .returned (.int .i64 (Oct.wd n)) ∧ w = w' := by
  have h1 := wd_bitLen n hn
  have h2 : Lib.bitLen n ≤ 64 := by have := Oct.wd_le n; omega
  go_enter Try.func101, Try.ntmps101
  go_wp2_with fail
  refine (len64_any (n : Int) w (by omega) (by omega)).mono ?_
  rintro e w' ⟨rfl, rfl⟩
  rw [Int.toNat_natCast]
  generalize Lib.bitLen n = b at *
  have H1 := Lib.hid h1
  clear h1
  go_wp2_with fail
  go_ret
  refine ⟨?_, rfl⟩
  rw [← H1.out]
  go_num

/-- A row of bytes of the call's own: block g, from B on, not frozen. -/
def BytesIn (w : World) (g : Nat) (l : List UInt8) : Prop := ∀ j, (h : j < l.length) → w.cell? ⟨g, j, none⟩ = some (.int .u8 (l[j].toNat : Int))
theorem back_in (w : World) (g n cap : Nat) (l : List UInt8) (h : BytesIn w g l) (hl : l.length = n) :
    (convert 95 9 (.slice (some ⟨g, 0, none⟩) n cap)).run Try.prog w = .ok (.string ⟨l.toArray⟩) w := by
  subst hl
  exact run_convert_bytes_back (P := Try.prog) w 95 9 5 ⟨g, 0, none⟩ cap l Try.underlying95 Try.underlying5 Try.underlying9
    (fun i hi => by rw [Go.WideShapes.add_plain, Nat.zero_add]; exact h i hi)
theorem bytes_one (w : World) (x : Int) (b : UInt8) (hx : x = (b.toNat : Int)) : BytesIn (w.alloc (.cells #[.int .u8 x] 5)) w.heap.size [b] := by
  subst hx
  intro j hj
  have : j = 0 := by simp at hj; omega
  subst this
  rw [World.cell?_alloc_new]
  simp
/-- string([]byte{b}) -/
theorem back_one (w : World) (x : Int) (b : UInt8) (hx : x = (b.toNat : Int)) :
    (convert 95 9 (.slice (some ⟨w.heap.size, 0, none⟩) 1 1)).run Try.prog (w.alloc (.cells #[.int .u8 x] 5)) = .ok (.string ⟨#[b]⟩) (w.alloc (.cells #[.int .u8 x] 5)) :=
  back_in _ _ 1 1 [b] (bytes_one w x b hx) rfl
theorem infoByte : (Try.prog.info? 5).map (fun i => (i.zero, i.size, i.bytes)) = some (some (.int .u8 0), 1, 1) := by kernel_rfl

set_option maxHeartbeats 400000 in
theorem number_small (n : Nat) (hn : (n : Int) < 248) (w : World) :
    Calls Try.prog 86 #[.int .u64 n] w fun e w' => e = .returned (.string ⟨#[UInt8.ofNat n]⟩) ∧ Below w.heap.size w w' := by
  have hb := back_one w (n : Int) (UInt8.ofNat n) (by rw [UInt8.toNat_ofNat']; omega)
  go_enter Try.func86, Try.ntmps86
  go_wp2_with fail
  go_ret
  exact ⟨rfl, (Below.refl _ _).alloc (Nat.le_refl _) _⟩

def byteV (b : UInt8) : Value := .int .u8 (b.toNat : Int)
theorem bytesIn_of_owns {w : World} {B g n cap : Nat} {l : List UInt8} (h : w.ownsRow B 5 1 (.slice (some ⟨g, 0, none⟩) n cap) n (l.map byteV)) (hl : l.length = n) : BytesIn w g l := by
  intro j hj
  rw [h.cellAt j (by omega)]
  simp [hj, byteV]
theorem owns_first (w : World) (x : Int) (b : UInt8) (hx : x = (b.toNat : Int)) (z : Value) :
    (w.alloc (.cells #[.int .u8 x, z, z, z, z, z, z, z, z] 5)).ownsRow w.heap.size 5 1 (.slice (some ⟨w.heap.size, 0, none⟩) 1 9) 1 ([b].map byteV) := by
  subst hx
  refine ⟨rfl, .inr ⟨w.heap.size, 9, #[.int .u8 (b.toNat : Int), z, z, z, z, z, z, z, z], rfl, Nat.le_refl _, ?_, by omega, by simp [maxLen], rfl, rfl⟩⟩
  show (w.heap.push _)[w.heap.size]? = _
  simp

set_option maxRecDepth 100000 in
set_option maxHeartbeats 1000000 in
theorem number_big (n : Nat) (hn : ¬ (n : Int) < 248) (hn2 : n < 18446744073709551616) (w : World) :
    Calls Try.prog 86 #[.int .u64 n] w fun e w' => e = .returned (.string ⟨(UInt8.ofNat (247 + Oct.wd n) :: Oct.be (Oct.wd n) n).toArray⟩) ∧ Below w.heap.size w w' := by
  have h8 : (Oct.wd n : Int) ≤ 8 := by have := Oct.wd_le n; omega
  have h0 : 1 ≤ (Oct.wd n : Int) := by
    have : Oct.wd n ≠ 0 := fun e => by rw [Oct.wd_zero] at e; omega
    omega
  have hmk : ∀ w, (Instr.makeSlice 95 (.int .i64 1) (.int .i64 9)).run Try.prog w = .ok (.slice (some ⟨w.heap.size, 0, none⟩) 1 9) (w.alloc (.cells #[.int .u8 0, .int .u8 0, .int .u8 0, .int .u8 0, .int .u8 0, .int .u8 0, .int .u8 0, .int .u8 0, .int .u8 0] 5)) := fun _ => by kernel_rfl
  have hwid := width_any n hn2
  obtain ⟨k, hk⟩ : ∃ k, k = Oct.wd n := ⟨_, rfl⟩
  rw [← hk] at h8 h0 hwid ⊢
  have HW := Lib.hid hwid
  obtain ⟨i0, hi, hz0, hz1, hz2⟩ := info_parts infoByte
  clear hwid hk hn2
  go_enter Try.func86, Try.ntmps86
  go_wp2_with fail
  refine (HW.out _).mono ?_
  rintro e w' ⟨rfl, rfl⟩
  go_wp2_with fail
  obtain ⟨b0, hb0⟩ : ∃ b0 : UInt8, (247 + (k : Int)) = (b0.toNat : Int) ∧ b0 = UInt8.ofNat (247 + k) := ⟨UInt8.ofNat (247 + k), by rw [UInt8.toNat_ofNat']; omega, rfl⟩
  have hown := owns_first w (247 + (k : Int)) b0 hb0.1 (.int .u8 0)
  have HB0 := Lib.hid hb0.2
  clear hb0 hmk
  go_loopw [4, 5] (fun v i wr => ∃ j : Nat, (j : Int) ≤ (k : Int) ∧ i = .int .i64 ((k : Int) - 1 - (j : Int)) ∧ v = .slice (some ⟨w.heap.size, 0, none⟩) (1 + j) 9 ∧
      wr.ownsRow w.heap.size 5 1 (.slice (some ⟨w.heap.size, 0, none⟩) (1 + j) 9) (1 + j) ((b0 :: (Oct.be k n).take j).map byteV) ∧ Below w.heap.size w wr) (fun _ i _ => (intOf i + 1).toNat)
  case atStart => exact ⟨0, by omega, by go_num, rfl, by simpa using hown, (Below.refl _ _).alloc (Nat.le_refl _) _⟩
  case round =>
    clear hown
    obtain ⟨j, hj, rfl, rfl, hown, hbel⟩ := hrel
    by_cases hlt : (j : Int) < (k : Int)
    · obtain ⟨b, hb⟩ : ∃ b : UInt8, b = UInt8.ofNat (n / 256 ^ (k - 1 - j)) := ⟨_, rfl⟩
      have hX := Oct.shr_byte n (k - 1 - j)
      have H := Lib.hid (Oct.be_take k n j (by omega))
      rw [← hb] at hX H
      clear hb
      go_wp2_with (at_builtin; refine wpList_append_fits _ rfl _ _ 95 rfl w.heap.size 5 i0 1 Try.underlying95 hi hz1 w.heap.size (1 + j) 9 _ rfl (hown.alloc _) ⟨wr.heap.size, 0, none⟩ 1 1 [byteV b] rfl rfl (cell_one_new _ _ _) ?c1 ?c2 ?_)
      case c1 => intro u hu; simp at hu; subst hu; rfl
      case c2 => omega
      intro w1 hown1 hgrow
      have hsz := hbel.size
      have hbel1 : Below w.heap.size w w1 := (hbel.alloc hsz _).grown hgrow (by simp; omega) (fun q hq => by cases hq; exact Nat.le_refl _)
      clear hown hgrow hX hbel
      go_wp2_with fail
      go_roundw
      case rel =>
        refine ⟨j + 1, by omega, by go_num, by rw [Nat.add_assoc], ?_, hbel1⟩
        have e : ((b0 :: (Oct.be k n).take (j + 1)).map byteV) = (byteV b0 :: (List.take j (List.map byteV (Oct.be k n)) ++ [byteV b])) := by rw [H.out]; simp
        rw [e, ← Nat.add_assoc]
        exact hown1
      case measure => simp [intOf]; omega
    · obtain rfl : j = k := by omega
      have hl : (b0 :: Oct.be j n).length = 1 + j := by rw [List.length_cons, Oct.be_length]; omega
      have ht : (Oct.be j n).take j = Oct.be j n := List.take_of_length_le (by rw [Oct.be_length]; exact Nat.le_refl _)
      rw [ht] at hown
      have hback := back_in wr w.heap.size (1 + j) 9 _ (bytesIn_of_owns hown hl) hl
      rw [HB0.out] at hback
      clear hl ht hown
      go_wp2_with fail
      go_ret
      exact ⟨rfl, hbel⟩

/-- octets.Number lays the document's bytes. -/
theorem number_any (n : Nat) (hn : n < 18446744073709551616) (w : World) :
    Calls Try.prog 86 #[.int .u64 n] w fun e w' => e = .returned (.string (Oct.numB n)) ∧ Below w.heap.size w w' := by
  unfold Oct.numB Oct.num
  by_cases h : n < 248
  · rw [if_pos h]; exact number_small n (by omega) w
  · rw [if_neg h]; exact number_big n (by omega) hn w

/-! ### The document's Number -/
def beB (k n : Nat) : ByteArray := ⟨(Oct.be k n).toArray⟩
def oneB (b : UInt8) : ByteArray := ⟨#[b]⟩
theorem oneB_be (k n : Nat) : oneB (UInt8.ofNat (n / 256 ^ k)) ++ beB k n = beB (k + 1) n := by
  apply ByteArray.ext
  rw [ByteArray.data_append]
  simp [oneB, beB, Oct.be]
theorem beB_size (k n : Nat) : (beB k n).size = k := by show (Oct.be k n).toArray.size = k; rw [List.size_toArray, Oct.be_length]

set_option maxHeartbeats 400000 in
theorem refNumber_small (n : Nat) (hn : (n : Int) < 248) (w : World) :
    Calls Try.prog 89 #[.int .u64 n] w fun e w' => e = .returned (.string ⟨#[UInt8.ofNat n]⟩) ∧ Below w.heap.size w w' := by
  have hb := back_one w (n : Int) (UInt8.ofNat n) (by rw [UInt8.toNat_ofNat']; omega)
  have hle : (n : Int) ≤ 247 := by omega
  go_enter Try.func89, Try.ntmps89
  go_wp2_with fail
  go_ret
  exact ⟨rfl, (Below.refl _ _).alloc (Nat.le_refl _) _⟩

set_option maxRecDepth 100000 in
set_option maxHeartbeats 1000000 in
theorem refNumber_big (n : Nat) (hn : ¬ (n : Int) ≤ 247) (hn2 : n < 18446744073709551616) (w : World) :
    Calls Try.prog 89 #[.int .u64 n] w fun e w' => e = .returned (.string ⟨(UInt8.ofNat (247 + Oct.wd n) :: Oct.be (Oct.wd n) n).toArray⟩) ∧ Below w.heap.size w w' := by
  have h8 : (Oct.wd n : Int) ≤ 8 := by have := Oct.wd_le n; omega
  have HN2 := Lib.hid hn2
  clear hn2
  go_enter Try.func89, Try.ntmps89
  go_wp2_with fail
  go_loopw [0, 3, 4] (fun x o i wr => ∃ j : Nat, (j : Int) ≤ 8 ∧ j ≤ Oct.wd n ∧ i = .int .i64 (j : Int) ∧ x = .int .u64 ((n / 256 ^ j : Nat) : Int) ∧ o = .string (beB j n) ∧ Below w.heap.size w wr) (fun x _ _ _ => (intOf x).toNat)
  case atStart => exact ⟨0, by omega, Nat.zero_le _, rfl, by simp, rfl, Below.refl _ _⟩
  case round =>
    obtain ⟨j, hj, hjw, rfl, rfl, rfl, hbel⟩ := hrel
    have hz := Oct.div_zero_iff (k := j) HN2.out
    have hs : ((beB j n).size : Int) ≤ 8 := by rw [beB_size]; exact hj
    have hdiv : n / 256 ^ (j + 1) = n / 256 ^ j / 256 := by rw [Nat.pow_succ, Nat.div_div_eq_div_mul]
    have HD := Lib.hid hdiv
    have HZ := Lib.hid hz
    clear hz hdiv
    by_cases h0 : n / 256 ^ j = 0
    · obtain ⟨b0, hb0, hb1⟩ : ∃ b0 : UInt8, (247 + (j : Int)) = (b0.toNat : Int) ∧ b0 = UInt8.ofNat (247 + j) := ⟨UInt8.ofNat (247 + j), by rw [UInt8.toNat_ofNat']; omega, rfl⟩
      have hj2 : j = Oct.wd n := Nat.le_antisymm hjw (HZ.out.1 h0)
      have hback := back_one wr (247 + (j : Int)) b0 hb0
      have hs1 : ((oneB b0).size : Int) ≤ 8 := by show ((1 : Nat) : Int) ≤ 8; omega
      have e1 : oneB b0 ++ beB j n = ⟨(UInt8.ofNat (247 + Oct.wd n) :: Oct.be (Oct.wd n) n).toArray⟩ := by
        rw [← hj2, ← hb1]
        apply ByteArray.ext
        rw [ByteArray.data_append]
        simp [oneB, beB]
      have hfin := Lib.hid e1
      have hback2 : (convert 95 9 (.slice (some ⟨wr.heap.size, 0, none⟩) 1 1)).run Try.prog (wr.alloc (.cells #[.int .u8 (247 + (j : Int))] 5)) = .ok (.string (oneB b0)) (wr.alloc (.cells #[.int .u8 (247 + (j : Int))] 5)) := hback
      rw [h0]
      clear hb0 hb1 hj2 hback e1 h0
      go_wp2_with fail
      go_ret
      have hsz := hbel.size
      exact ⟨by rw [← hfin.out]; rfl, hbel.alloc hsz _⟩
    · have hjw2 : j + 1 ≤ Oct.wd n := by have := mt HZ.out.2 h0; omega
      have hj8 := Oct.wd_le n
      have H := Lib.hid (oneB_be j n)
      have hw := Oct.wrap_quo (q := n / 256 ^ j) (Nat.lt_of_le_of_lt (Nat.div_le_self _ _) HN2.out)
      generalize n / 256 ^ j = q at *
      have hpos2 : 0 < (q : Int) := by omega
      obtain ⟨b, hb⟩ : ∃ b : UInt8, b = UInt8.ofNat q := ⟨_, rfl⟩
      have hX := Oct.mod_byte q
      rw [← hb] at hX H
      have hs1 : ((oneB b).size : Int) ≤ 8 := by show ((1 : Nat) : Int) ≤ 8; omega
      have hback : (convert 95 9 (.slice (some ⟨wr.heap.size, 0, none⟩) 1 1)).run Try.prog (wr.alloc (.cells #[.int .u8 (b.toNat : Int)] 5)) = .ok (.string (oneB b)) (wr.alloc (.cells #[.int .u8 (b.toNat : Int)] 5)) := back_one wr _ b rfl
      have HJ := Lib.hid hjw2
      have hj7 : (j : Int) + 1 ≤ 8 := by omega
      clear hb h0 hjw2 hj8
      go_wp2_with fail
      go_roundw
      case rel =>
        have hsz := hbel.size
        exact ⟨j + 1, by omega, HJ.out, by go_num, by rw [HD.out]; simp, by rw [← H.out], hbel.alloc hsz _⟩
      case measure => simp [intOf]; omega

theorem refNumber_any (n : Nat) (hn : n < 18446744073709551616) (w : World) :
    Calls Try.prog 89 #[.int .u64 n] w fun e w' => e = .returned (.string (Oct.numB n)) ∧ Below w.heap.size w w' := by
  unfold Oct.numB Oct.num
  by_cases h : n < 248
  · rw [if_pos h]; exact refNumber_small n (by omega) w
  · rw [if_neg h]; exact refNumber_big n (by omega) hn w
end Go.Proofs.Ytbajgpbekanodaa
