/- The walks over the laws OctetsNumbers and OctetsOrder. No condition. -/
import Derived.Test.YtcnnfbmfhjphfaaOctText
namespace Go.Proofs.Ytcnnfbmfhjphfaa
open Go.RowKit

set_option maxRecDepth 100000 in
set_option maxHeartbeats 400000 in
theorem octetsNumbers_walk (n : Nat) (w : World) (hn : n < 18446744073709551616) :
    Calls Try.prog 8 #[.int .u64 n] w fun e w' => e = .returned (.bool true) ∧ Below w.heap.size w w' := by
  have C1 := Lib.hid (number_any n hn)
  have C2 := Lib.hid (refNumber_any n hn)
  clear hn
  generalize Oct.numB n = x at *
  go_enter Try.func8, Try.ntmps8
  go_wp2_with fail
  refine (C1.out _).mono ?_
  rintro e w1 ⟨rfl, hb1⟩
  go_wp2_with fail
  refine (C2.out _).mono ?_
  rintro e w2 ⟨rfl, hb2⟩
  go_wp2_with fail
  refine (awake01_any _).mono ?_
  rintro e w3 ⟨rfl, hb3⟩
  go_wp2_with fail
  go_ret
  have k2 := hb1.trans (hb2.mono hb1.size)
  exact ⟨rfl, k2.trans (hb3.mono k2.size)⟩

/-- What the law OctetsOrder reads of two numbers' bytes. -/
theorem order_facts (a b : Nat) (ha : a < 18446744073709551616) (hb : b < 18446744073709551616) (hab : a ≠ b) :
    Op.bytesLess (Oct.numB a).toList (Oct.numB b).toList = decide (a < b) ∧ ((Oct.numB a).toList == (Oct.numB b).toList) = false ∧ ((Oct.numB a).size ≤ (Oct.numB b).size → (((Oct.numB b).extract 0 (Oct.numB a).size).toList == (Oct.numB a).toList) = false) := by
  rw [ByteArray.toList_eq, ByteArray.toList_eq, ByteArray.toList_eq, Oct.numB_list, Oct.numB_list]
  refine ⟨Oct.less_num a b ha hb, ?_, fun _ => ?_⟩
  · rw [beq_eq_false_iff_ne]; exact fun h => hab (Oct.num_inj ha hb h)
  · rw [beq_eq_false_iff_ne]
    intro h
    refine hab (Oct.num_prefix ha hb ?_)
    rw [ByteArray.data_extract, Array.toList_extract, List.extract_eq_take_drop, Oct.numB_list, Oct.numB_size] at h
    simpa using h

set_option maxRecDepth 100000 in
set_option maxHeartbeats 400000 in
theorem octetsOrder_same (a : Nat) (w : World) (ha : a < 18446744073709551616) :
    Calls Try.prog 10 #[.int .u64 a, .int .u64 a] w fun e w' => e = .returned (.bool true) ∧ Below w.heap.size w w' := by
  have C1 := Lib.hid (number_any a ha)
  have L : Op.bytesLess (Oct.numB a).toList (Oct.numB a).toList = false := by
    rw [ByteArray.toList_eq, Oct.numB_list, Oct.less_num a a ha ha]; simp
  clear ha
  generalize Oct.numB a = x at *
  go_enter Try.func10, Try.ntmps10
  go_wp2_with fail
  refine (C1.out _).mono ?_
  rintro e w1 ⟨rfl, hb1⟩
  go_wp2_with fail
  refine (C1.out _).mono ?_
  rintro e w2 ⟨rfl, hb2⟩
  have k2 := hb1.trans (hb2.mono hb1.size)
  go_wp2_with fail
  refine (awake01_any _).mono ?_
  rintro e w3 ⟨rfl, hb3⟩
  go_wp2_with fail
  go_ret
  exact ⟨rfl, k2.trans (hb3.mono k2.size)⟩

set_option maxRecDepth 100000 in
set_option maxHeartbeats 400000 in
theorem octetsOrder_walk (a b : Nat) (w : World) (ha : a < 18446744073709551616) (hb : b < 18446744073709551616) :
    Calls Try.prog 10 #[.int .u64 a, .int .u64 b] w fun e w' => e = .returned (.bool true) ∧ Below w.heap.size w w' := by
  by_cases hab : a = b
  · subst hab; exact octetsOrder_same a w ha
  have C1 := Lib.hid (number_any a ha)
  have C2 := Lib.hid (number_any b hb)
  obtain ⟨F1, F2, F3⟩ := order_facts a b ha hb hab
  have E1 : ((a : Int) == (b : Int)) = false := by rw [beq_eq_false_iff_ne]; omega
  have HP := Lib.hid F3
  have hx : ((Oct.numB a).size : Int) ≤ 9 := by have := Oct.numB_le a; omega
  have hy : ((Oct.numB b).size : Int) ≤ 9 := by have := Oct.numB_le b; omega
  clear ha hb F3
  generalize Oct.numB a = x at *
  generalize Oct.numB b = y at *
  go_enter Try.func10, Try.ntmps10
  go_wp2_with fail
  refine (C1.out _).mono ?_
  rintro e w1 ⟨rfl, hb1⟩
  go_wp2_with fail
  refine (C2.out _).mono ?_
  rintro e w2 ⟨rfl, hb2⟩
  have k2 := hb1.trans (hb2.mono hb1.size)
  go_wp2_with (go_at_call 23; refine (awake01_any _).mono ?_; rintro e w3 ⟨rfl, hb3⟩)
  · go_ret
    rename_i h1 h2
    have e1 : (decide (y.size < x.size) || !(y.extract 0 x.size).toList == x.toList) = true := by simpa using h2
    exact ⟨by rw [← e1]; rfl, k2.trans (hb3.mono k2.size)⟩
  · exfalso
    rename_i h1 h2
    refine h2 (.inr ?_)
    have := HP.out h1
    rwa [beq_eq_false_iff_ne] at this
  · go_ret
    exact ⟨rfl, k2.trans (hb3.mono k2.size)⟩
end Go.Proofs.Ytcnnfbmfhjphfaa
