/- The walk over feed's Clash, where it finds none at once. -/
import Derived.Test.YtbajgpbekanodaaFeedChain
namespace Go.Proofs.Ytbajgpbekanodaa
open Go.RowKit

set_option maxRecDepth 100000 in
set_option maxHeartbeats 2000000 in
theorem clashF_1 (ao bo : Option Addr) (m c1 c2 : Nat) (w : World)  :
    Calls Try.prog 39 #[.slice ao 0 c1, .slice bo m c2] w fun e w' => e = .returned (.tuple #[.string ByteArray.empty, .string ByteArray.empty, .bool false]) ∧ Below w.heap.size w w' := by
  go_enter Try.func39, Try.ntmps39
  go_upto_region 1 with fail
  refine wp_region_puts2 (R := fun qi w' v => v = [Value.slice ao 0 c1, .int .i64 0, .bool true, .bool true, undef, undef, undef, .bool true, .bool true, undef, undef, undef, .bool true, .bool true, undef, undef, undef, .bool true, .bool true, undef, undef, undef, undef, undef, undef, undef, undef, undef, undef, undef, undef, undef, undef, undef, .bool true].getD qi undef)
    (by kernel_rfl) (by kernel_rfl) (by kernel_rfl) ?hRR (by kernel_rfl) (steps_of ?hs) ?hd
  case hRR =>
    intro qi w1 w2 v hb hv
    exact hv
  case hs =>
    refine ⟨?_, ?_, ?_, ?_, ?_, ?_, ?_, ?_, ?_, ?_, ?_, ?_, ?_, ?_, ?_, ?_, ?_, ?_, ?_, ?_, ?_, ?_, ?_, ?_, ?_, ?_, ?_, ?_, ?_, ?_, ?_, ?_, ?_, ?_, ?_, trivial⟩
    · refine stepOk_value rfl fun a w5 ht => ?_
      have e0 : a.tmps[0]?.getD undef = .slice ao 0 c1 := ht.old' 0 (.slice ao 0 c1) (by kernel_rfl) rfl
      exact ⟨Value.slice ao 0 c1, w5, by go_simp, Below.refl _ _, rfl⟩
    · refine stepOk_value rfl fun a w5 ht => ?_
      have e10 : a.tmps[10]?.getD undef = Value.slice ao 0 c1 := ht.dep' 0 10 (by kernel_rfl) rfl
      exact ⟨.int .i64 0, w5, by go_simp, Below.refl _ _, rfl⟩
    · refine stepOk_value rfl fun a w5 ht => ?_
      have e11 : a.tmps[11]?.getD undef = .int .i64 0 := ht.dep' 1 11 (by kernel_rfl) rfl
      exact ⟨.bool true, w5, by go_simp, Below.refl _ _, rfl⟩
    · refine stepOk_value rfl fun a w5 ht => ?_
      have e12 : a.tmps[12]?.getD undef = .bool true := ht.dep' 2 12 (by kernel_rfl) rfl
      exact ⟨.bool true, w5, by go_simp, Below.refl _ _, rfl⟩
    · exact stepOk_skip 3 13 false true rfl (by decide) (by kernel_rfl) rfl (Nat.le_of_ble_eq_true rfl) (fun w v h => h) (fun w => rfl)
    · exact stepOk_skip 3 13 false true rfl (by decide) (by kernel_rfl) rfl (Nat.le_of_ble_eq_true rfl) (fun w v h => h) (fun w => rfl)
    · exact stepOk_skip 3 13 false true rfl (by decide) (by kernel_rfl) rfl (Nat.le_of_ble_eq_true rfl) (fun w v h => h) (fun w => rfl)
    · refine stepOk_value rfl fun a w5 ht => ?_
      have e13 : a.tmps[13]?.getD undef = .bool true := ht.dep' 3 13 (by kernel_rfl) rfl
      exact ⟨.bool true, w5, by go_simp, Below.refl _ _, rfl⟩
    · refine stepOk_value rfl fun a w5 ht => ?_
      have e17 : a.tmps[17]?.getD undef = .bool true := ht.dep' 7 17 (by kernel_rfl) rfl
      exact ⟨.bool true, w5, by go_simp, Below.refl _ _, rfl⟩
    · exact stepOk_skip 8 18 false true rfl (by decide) (by kernel_rfl) rfl (Nat.le_of_ble_eq_true rfl) (fun w v h => h) (fun w => rfl)
    · exact stepOk_skip 8 18 false true rfl (by decide) (by kernel_rfl) rfl (Nat.le_of_ble_eq_true rfl) (fun w v h => h) (fun w => rfl)
    · exact stepOk_skip 8 18 false true rfl (by decide) (by kernel_rfl) rfl (Nat.le_of_ble_eq_true rfl) (fun w v h => h) (fun w => rfl)
    · refine stepOk_value rfl fun a w5 ht => ?_
      have e18 : a.tmps[18]?.getD undef = .bool true := ht.dep' 8 18 (by kernel_rfl) rfl
      exact ⟨.bool true, w5, by go_simp, Below.refl _ _, rfl⟩
    · refine stepOk_value rfl fun a w5 ht => ?_
      have e22 : a.tmps[22]?.getD undef = .bool true := ht.dep' 12 22 (by kernel_rfl) rfl
      exact ⟨.bool true, w5, by go_simp, Below.refl _ _, rfl⟩
    · exact stepOk_skip 13 23 false true rfl (by decide) (by kernel_rfl) rfl (Nat.le_of_ble_eq_true rfl) (fun w v h => h) (fun w => rfl)
    · exact stepOk_skip 13 23 false true rfl (by decide) (by kernel_rfl) rfl (Nat.le_of_ble_eq_true rfl) (fun w v h => h) (fun w => rfl)
    · exact stepOk_skip 13 23 false true rfl (by decide) (by kernel_rfl) rfl (Nat.le_of_ble_eq_true rfl) (fun w v h => h) (fun w => rfl)
    · refine stepOk_value rfl fun a w5 ht => ?_
      have e23 : a.tmps[23]?.getD undef = .bool true := ht.dep' 13 23 (by kernel_rfl) rfl
      exact ⟨.bool true, w5, by go_simp, Below.refl _ _, rfl⟩
    · refine stepOk_value rfl fun a w5 ht => ?_
      have e27 : a.tmps[27]?.getD undef = .bool true := ht.dep' 17 27 (by kernel_rfl) rfl
      exact ⟨.bool true, w5, by go_simp, Below.refl _ _, rfl⟩
    · exact stepOk_skip 18 28 false true rfl (by decide) (by kernel_rfl) rfl (Nat.le_of_ble_eq_true rfl) (fun w v h => h) (fun w => rfl)
    · exact stepOk_skip 18 28 false true rfl (by decide) (by kernel_rfl) rfl (Nat.le_of_ble_eq_true rfl) (fun w v h => h) (fun w => rfl)
    · exact stepOk_skip 18 28 false true rfl (by decide) (by kernel_rfl) rfl (Nat.le_of_ble_eq_true rfl) (fun w v h => h) (fun w => rfl)
    · exact stepOk_skip 18 28 false true rfl (by decide) (by kernel_rfl) rfl (Nat.le_of_ble_eq_true rfl) (fun w v h => h) (fun w => rfl)
    · exact stepOk_skip 18 28 false true rfl (by decide) (by kernel_rfl) rfl (Nat.le_of_ble_eq_true rfl) (fun w v h => h) (fun w => rfl)
    · exact stepOk_skip 18 28 false true rfl (by decide) (by kernel_rfl) rfl (Nat.le_of_ble_eq_true rfl) (fun w v h => h) (fun w => rfl)
    · exact stepOk_skip 18 28 false true rfl (by decide) (by kernel_rfl) rfl (Nat.le_of_ble_eq_true rfl) (fun w v h => h) (fun w => rfl)
    · exact stepOk_skip 18 28 false true rfl (by decide) (by kernel_rfl) rfl (Nat.le_of_ble_eq_true rfl) (fun w v h => h) (fun w => rfl)
    · exact stepOk_skip 18 28 false true rfl (by decide) (by kernel_rfl) rfl (Nat.le_of_ble_eq_true rfl) (fun w v h => h) (fun w => rfl)
    · exact stepOk_skip 18 28 false true rfl (by decide) (by kernel_rfl) rfl (Nat.le_of_ble_eq_true rfl) (fun w v h => h) (fun w => rfl)
    · exact stepOk_skip 18 28 false true rfl (by decide) (by kernel_rfl) rfl (Nat.le_of_ble_eq_true rfl) (fun w v h => h) (fun w => rfl)
    · exact stepOk_skip 18 28 false true rfl (by decide) (by kernel_rfl) rfl (Nat.le_of_ble_eq_true rfl) (fun w v h => h) (fun w => rfl)
    · exact stepOk_skip 18 28 false true rfl (by decide) (by kernel_rfl) rfl (Nat.le_of_ble_eq_true rfl) (fun w v h => h) (fun w => rfl)
    · exact stepOk_skip 18 28 false true rfl (by decide) (by kernel_rfl) rfl (Nat.le_of_ble_eq_true rfl) (fun w v h => h) (fun w => rfl)
    · exact stepOk_skip 18 28 false true rfl (by decide) (by kernel_rfl) rfl (Nat.le_of_ble_eq_true rfl) (fun w v h => h) (fun w => rfl)
    · refine stepOk_value rfl fun a w5 ht => ?_
      have e28 : a.tmps[28]?.getD undef = .bool true := ht.dep' 18 28 (by kernel_rfl) rfl
      exact ⟨.bool true, w5, by go_simp, Below.refl _ _, rfl⟩
  case hd =>
    intro vs w8 hl hb8 hvs
    have hl : vs.length = 35 := hl
    obtain ⟨v0, r0, rfl, l0⟩ := uncons vs hl
    obtain ⟨v1, r1, rfl, l1⟩ := uncons r0 l0
    obtain ⟨v2, r2, rfl, l2⟩ := uncons r1 l1
    obtain ⟨v3, r3, rfl, l3⟩ := uncons r2 l2
    obtain ⟨v4, r4, rfl, l4⟩ := uncons r3 l3
    obtain ⟨v5, r5, rfl, l5⟩ := uncons r4 l4
    obtain ⟨v6, r6, rfl, l6⟩ := uncons r5 l5
    obtain ⟨v7, r7, rfl, l7⟩ := uncons r6 l6
    obtain ⟨v8, r8, rfl, l8⟩ := uncons r7 l7
    obtain ⟨v9, r9, rfl, l9⟩ := uncons r8 l8
    obtain ⟨v10, r10, rfl, l10⟩ := uncons r9 l9
    obtain ⟨v11, r11, rfl, l11⟩ := uncons r10 l10
    obtain ⟨v12, r12, rfl, l12⟩ := uncons r11 l11
    obtain ⟨v13, r13, rfl, l13⟩ := uncons r12 l12
    obtain ⟨v14, r14, rfl, l14⟩ := uncons r13 l13
    obtain ⟨v15, r15, rfl, l15⟩ := uncons r14 l14
    obtain ⟨v16, r16, rfl, l16⟩ := uncons r15 l15
    obtain ⟨v17, r17, rfl, l17⟩ := uncons r16 l16
    obtain ⟨v18, r18, rfl, l18⟩ := uncons r17 l17
    obtain ⟨v19, r19, rfl, l19⟩ := uncons r18 l18
    obtain ⟨v20, r20, rfl, l20⟩ := uncons r19 l19
    obtain ⟨v21, r21, rfl, l21⟩ := uncons r20 l20
    obtain ⟨v22, r22, rfl, l22⟩ := uncons r21 l21
    obtain ⟨v23, r23, rfl, l23⟩ := uncons r22 l22
    obtain ⟨v24, r24, rfl, l24⟩ := uncons r23 l23
    obtain ⟨v25, r25, rfl, l25⟩ := uncons r24 l24
    obtain ⟨v26, r26, rfl, l26⟩ := uncons r25 l25
    obtain ⟨v27, r27, rfl, l27⟩ := uncons r26 l26
    obtain ⟨v28, r28, rfl, l28⟩ := uncons r27 l27
    obtain ⟨v29, r29, rfl, l29⟩ := uncons r28 l28
    obtain ⟨v30, r30, rfl, l30⟩ := uncons r29 l29
    obtain ⟨v31, r31, rfl, l31⟩ := uncons r30 l30
    obtain ⟨v32, r32, rfl, l32⟩ := uncons r31 l31
    obtain ⟨v33, r33, rfl, l33⟩ := uncons r32 l32
    obtain ⟨v34, r34, rfl, l34⟩ := uncons r33 l33
    obtain rfl := List.eq_nil_of_length_eq_zero l34
    have h34 : v34 = .bool true := hvs 34 (by decide)
    subst h34
    clear hvs
    simp only [puts, List.map, go_sem, List.setIfInBounds_toArray, List.set_cons_succ, List.set_cons_zero]
    have HB8 := Lib.hid hb8
    clear hb8
    go_wp2_with fail
    go_ret3
    exact ⟨rfl, HB8.out⟩

set_option maxRecDepth 100000 in
set_option maxHeartbeats 2000000 in
theorem clashF_2 (ao bo : Option Addr) (n c1 c2 : Nat) (w : World) (hn : ((n : Int) == 0) = false) :
    Calls Try.prog 39 #[.slice ao n c1, .slice bo 0 c2] w fun e w' => e = .returned (.tuple #[.string ByteArray.empty, .string ByteArray.empty, .bool false]) ∧ Below w.heap.size w w' := by
  go_enter Try.func39, Try.ntmps39
  go_upto_region 1 with fail
  refine wp_region_puts2 (R := fun qi w' v => v = [Value.slice ao n c1, .int .i64 (n : Int), .bool false, .bool false, .slice bo 0 c2, .int .i64 0, .bool true, .bool true, .bool true, undef, undef, undef, .bool true, .bool true, undef, undef, undef, .bool true, .bool true, undef, undef, undef, undef, undef, undef, undef, undef, undef, undef, undef, undef, undef, undef, undef, .bool true].getD qi undef)
    (by kernel_rfl) (by kernel_rfl) (by kernel_rfl) ?hRR (by kernel_rfl) (steps_of ?hs) ?hd
  case hRR =>
    intro qi w1 w2 v hb hv
    exact hv
  case hs =>
    refine ⟨?_, ?_, ?_, ?_, ?_, ?_, ?_, ?_, ?_, ?_, ?_, ?_, ?_, ?_, ?_, ?_, ?_, ?_, ?_, ?_, ?_, ?_, ?_, ?_, ?_, ?_, ?_, ?_, ?_, ?_, ?_, ?_, ?_, ?_, ?_, trivial⟩
    · refine stepOk_value rfl fun a w5 ht => ?_
      have e0 : a.tmps[0]?.getD undef = .slice ao n c1 := ht.old' 0 (.slice ao n c1) (by kernel_rfl) rfl
      exact ⟨Value.slice ao n c1, w5, by go_simp, Below.refl _ _, rfl⟩
    · refine stepOk_value rfl fun a w5 ht => ?_
      have e10 : a.tmps[10]?.getD undef = Value.slice ao n c1 := ht.dep' 0 10 (by kernel_rfl) rfl
      exact ⟨.int .i64 (n : Int), w5, by go_simp, Below.refl _ _, rfl⟩
    · refine stepOk_value rfl fun a w5 ht => ?_
      have e11 : a.tmps[11]?.getD undef = .int .i64 (n : Int) := ht.dep' 1 11 (by kernel_rfl) rfl
      exact ⟨.bool false, w5, by go_simp, Below.refl _ _, rfl⟩
    · refine stepOk_value rfl fun a w5 ht => ?_
      have e12 : a.tmps[12]?.getD undef = .bool false := ht.dep' 2 12 (by kernel_rfl) rfl
      exact ⟨.bool false, w5, by go_simp, Below.refl _ _, rfl⟩
    · refine stepOk_value_guarded 3 13 false rfl (by kernel_rfl) rfl (Nat.le_of_ble_eq_true rfl) (fun w v h => h) fun a w5 ht => ?_
      have e1 : a.tmps[1]?.getD undef = .slice bo 0 c2 := ht.old' 1 (.slice bo 0 c2) (by kernel_rfl) rfl
      exact ⟨.slice bo 0 c2, w5, by go_simp, Below.refl _ _, rfl⟩
    · refine stepOk_value_guarded 3 13 false rfl (by kernel_rfl) rfl (Nat.le_of_ble_eq_true rfl) (fun w v h => h) fun a w5 ht => ?_
      have e14 : a.tmps[14]?.getD undef = .slice bo 0 c2 := ht.dep' 4 14 (by kernel_rfl) rfl
      exact ⟨.int .i64 0, w5, by go_simp, Below.refl _ _, rfl⟩
    · refine stepOk_value_guarded 3 13 false rfl (by kernel_rfl) rfl (Nat.le_of_ble_eq_true rfl) (fun w v h => h) fun a w5 ht => ?_
      have e15 : a.tmps[15]?.getD undef = .int .i64 0 := ht.dep' 5 15 (by kernel_rfl) rfl
      exact ⟨.bool true, w5, by go_simp, Below.refl _ _, rfl⟩
    · refine stepOk_value rfl fun a w5 ht => ?_
      have e13 : a.tmps[13]?.getD undef = .bool false := ht.dep' 3 13 (by kernel_rfl) rfl
      have e16 : a.tmps[16]?.getD undef = .bool true := ht.dep' 6 16 (by kernel_rfl) rfl
      exact ⟨.bool true, w5, by go_simp, Below.refl _ _, rfl⟩
    · refine stepOk_value rfl fun a w5 ht => ?_
      have e17 : a.tmps[17]?.getD undef = .bool true := ht.dep' 7 17 (by kernel_rfl) rfl
      exact ⟨.bool true, w5, by go_simp, Below.refl _ _, rfl⟩
    · exact stepOk_skip 8 18 false true rfl (by decide) (by kernel_rfl) rfl (Nat.le_of_ble_eq_true rfl) (fun w v h => h) (fun w => rfl)
    · exact stepOk_skip 8 18 false true rfl (by decide) (by kernel_rfl) rfl (Nat.le_of_ble_eq_true rfl) (fun w v h => h) (fun w => rfl)
    · exact stepOk_skip 8 18 false true rfl (by decide) (by kernel_rfl) rfl (Nat.le_of_ble_eq_true rfl) (fun w v h => h) (fun w => rfl)
    · refine stepOk_value rfl fun a w5 ht => ?_
      have e18 : a.tmps[18]?.getD undef = .bool true := ht.dep' 8 18 (by kernel_rfl) rfl
      exact ⟨.bool true, w5, by go_simp, Below.refl _ _, rfl⟩
    · refine stepOk_value rfl fun a w5 ht => ?_
      have e22 : a.tmps[22]?.getD undef = .bool true := ht.dep' 12 22 (by kernel_rfl) rfl
      exact ⟨.bool true, w5, by go_simp, Below.refl _ _, rfl⟩
    · exact stepOk_skip 13 23 false true rfl (by decide) (by kernel_rfl) rfl (Nat.le_of_ble_eq_true rfl) (fun w v h => h) (fun w => rfl)
    · exact stepOk_skip 13 23 false true rfl (by decide) (by kernel_rfl) rfl (Nat.le_of_ble_eq_true rfl) (fun w v h => h) (fun w => rfl)
    · exact stepOk_skip 13 23 false true rfl (by decide) (by kernel_rfl) rfl (Nat.le_of_ble_eq_true rfl) (fun w v h => h) (fun w => rfl)
    · refine stepOk_value rfl fun a w5 ht => ?_
      have e23 : a.tmps[23]?.getD undef = .bool true := ht.dep' 13 23 (by kernel_rfl) rfl
      exact ⟨.bool true, w5, by go_simp, Below.refl _ _, rfl⟩
    · refine stepOk_value rfl fun a w5 ht => ?_
      have e27 : a.tmps[27]?.getD undef = .bool true := ht.dep' 17 27 (by kernel_rfl) rfl
      exact ⟨.bool true, w5, by go_simp, Below.refl _ _, rfl⟩
    · exact stepOk_skip 18 28 false true rfl (by decide) (by kernel_rfl) rfl (Nat.le_of_ble_eq_true rfl) (fun w v h => h) (fun w => rfl)
    · exact stepOk_skip 18 28 false true rfl (by decide) (by kernel_rfl) rfl (Nat.le_of_ble_eq_true rfl) (fun w v h => h) (fun w => rfl)
    · exact stepOk_skip 18 28 false true rfl (by decide) (by kernel_rfl) rfl (Nat.le_of_ble_eq_true rfl) (fun w v h => h) (fun w => rfl)
    · exact stepOk_skip 18 28 false true rfl (by decide) (by kernel_rfl) rfl (Nat.le_of_ble_eq_true rfl) (fun w v h => h) (fun w => rfl)
    · exact stepOk_skip 18 28 false true rfl (by decide) (by kernel_rfl) rfl (Nat.le_of_ble_eq_true rfl) (fun w v h => h) (fun w => rfl)
    · exact stepOk_skip 18 28 false true rfl (by decide) (by kernel_rfl) rfl (Nat.le_of_ble_eq_true rfl) (fun w v h => h) (fun w => rfl)
    · exact stepOk_skip 18 28 false true rfl (by decide) (by kernel_rfl) rfl (Nat.le_of_ble_eq_true rfl) (fun w v h => h) (fun w => rfl)
    · exact stepOk_skip 18 28 false true rfl (by decide) (by kernel_rfl) rfl (Nat.le_of_ble_eq_true rfl) (fun w v h => h) (fun w => rfl)
    · exact stepOk_skip 18 28 false true rfl (by decide) (by kernel_rfl) rfl (Nat.le_of_ble_eq_true rfl) (fun w v h => h) (fun w => rfl)
    · exact stepOk_skip 18 28 false true rfl (by decide) (by kernel_rfl) rfl (Nat.le_of_ble_eq_true rfl) (fun w v h => h) (fun w => rfl)
    · exact stepOk_skip 18 28 false true rfl (by decide) (by kernel_rfl) rfl (Nat.le_of_ble_eq_true rfl) (fun w v h => h) (fun w => rfl)
    · exact stepOk_skip 18 28 false true rfl (by decide) (by kernel_rfl) rfl (Nat.le_of_ble_eq_true rfl) (fun w v h => h) (fun w => rfl)
    · exact stepOk_skip 18 28 false true rfl (by decide) (by kernel_rfl) rfl (Nat.le_of_ble_eq_true rfl) (fun w v h => h) (fun w => rfl)
    · exact stepOk_skip 18 28 false true rfl (by decide) (by kernel_rfl) rfl (Nat.le_of_ble_eq_true rfl) (fun w v h => h) (fun w => rfl)
    · exact stepOk_skip 18 28 false true rfl (by decide) (by kernel_rfl) rfl (Nat.le_of_ble_eq_true rfl) (fun w v h => h) (fun w => rfl)
    · refine stepOk_value rfl fun a w5 ht => ?_
      have e28 : a.tmps[28]?.getD undef = .bool true := ht.dep' 18 28 (by kernel_rfl) rfl
      exact ⟨.bool true, w5, by go_simp, Below.refl _ _, rfl⟩
  case hd =>
    intro vs w8 hl hb8 hvs
    have hl : vs.length = 35 := hl
    obtain ⟨v0, r0, rfl, l0⟩ := uncons vs hl
    obtain ⟨v1, r1, rfl, l1⟩ := uncons r0 l0
    obtain ⟨v2, r2, rfl, l2⟩ := uncons r1 l1
    obtain ⟨v3, r3, rfl, l3⟩ := uncons r2 l2
    obtain ⟨v4, r4, rfl, l4⟩ := uncons r3 l3
    obtain ⟨v5, r5, rfl, l5⟩ := uncons r4 l4
    obtain ⟨v6, r6, rfl, l6⟩ := uncons r5 l5
    obtain ⟨v7, r7, rfl, l7⟩ := uncons r6 l6
    obtain ⟨v8, r8, rfl, l8⟩ := uncons r7 l7
    obtain ⟨v9, r9, rfl, l9⟩ := uncons r8 l8
    obtain ⟨v10, r10, rfl, l10⟩ := uncons r9 l9
    obtain ⟨v11, r11, rfl, l11⟩ := uncons r10 l10
    obtain ⟨v12, r12, rfl, l12⟩ := uncons r11 l11
    obtain ⟨v13, r13, rfl, l13⟩ := uncons r12 l12
    obtain ⟨v14, r14, rfl, l14⟩ := uncons r13 l13
    obtain ⟨v15, r15, rfl, l15⟩ := uncons r14 l14
    obtain ⟨v16, r16, rfl, l16⟩ := uncons r15 l15
    obtain ⟨v17, r17, rfl, l17⟩ := uncons r16 l16
    obtain ⟨v18, r18, rfl, l18⟩ := uncons r17 l17
    obtain ⟨v19, r19, rfl, l19⟩ := uncons r18 l18
    obtain ⟨v20, r20, rfl, l20⟩ := uncons r19 l19
    obtain ⟨v21, r21, rfl, l21⟩ := uncons r20 l20
    obtain ⟨v22, r22, rfl, l22⟩ := uncons r21 l21
    obtain ⟨v23, r23, rfl, l23⟩ := uncons r22 l22
    obtain ⟨v24, r24, rfl, l24⟩ := uncons r23 l23
    obtain ⟨v25, r25, rfl, l25⟩ := uncons r24 l24
    obtain ⟨v26, r26, rfl, l26⟩ := uncons r25 l25
    obtain ⟨v27, r27, rfl, l27⟩ := uncons r26 l26
    obtain ⟨v28, r28, rfl, l28⟩ := uncons r27 l27
    obtain ⟨v29, r29, rfl, l29⟩ := uncons r28 l28
    obtain ⟨v30, r30, rfl, l30⟩ := uncons r29 l29
    obtain ⟨v31, r31, rfl, l31⟩ := uncons r30 l30
    obtain ⟨v32, r32, rfl, l32⟩ := uncons r31 l31
    obtain ⟨v33, r33, rfl, l33⟩ := uncons r32 l32
    obtain ⟨v34, r34, rfl, l34⟩ := uncons r33 l33
    obtain rfl := List.eq_nil_of_length_eq_zero l34
    have h34 : v34 = .bool true := hvs 34 (by decide)
    subst h34
    clear hvs
    simp only [puts, List.map, go_sem, List.setIfInBounds_toArray, List.set_cons_succ, List.set_cons_zero]
    have HB8 := Lib.hid hb8
    clear hb8
    go_wp2_with fail
    go_ret3
    exact ⟨rfl, HB8.out⟩

set_option maxRecDepth 100000 in
set_option maxHeartbeats 2000000 in
theorem clashF_3 (ao bo : Option Addr) (n m c1 c2 : Nat) (w : World) (hn : ((n : Int) == 0) = false)
    (hm : ((m : Int) == 0) = false)
    (CGA : Hid (∀ w', Below w.heap.size w w' → Calls Try.prog 70 #[.slice ao n c1] w' fun e w'' => e = .returned (.bool false) ∧ Below w'.heap.size w' w'')) :
    Calls Try.prog 39 #[.slice ao n c1, .slice bo m c2] w fun e w' => e = .returned (.tuple #[.string ByteArray.empty, .string ByteArray.empty, .bool false]) ∧ Below w.heap.size w w' := by
  go_enter Try.func39, Try.ntmps39
  go_upto_region 1 with fail
  refine wp_region_puts2 (R := fun qi w' v => v = [Value.slice ao n c1, .int .i64 (n : Int), .bool false, .bool false, .slice bo m c2, .int .i64 (m : Int), .bool false, .bool false, .bool false, .slice ao n c1, .bool false, .bool true, .bool true, .bool true, undef, undef, undef, .bool true, .bool true, undef, undef, undef, undef, undef, undef, undef, undef, undef, undef, undef, undef, undef, undef, undef, .bool true].getD qi undef)
    (by kernel_rfl) (by kernel_rfl) (by kernel_rfl) ?hRR (by kernel_rfl) (steps_of ?hs) ?hd
  case hRR =>
    intro qi w1 w2 v hb hv
    exact hv
  case hs =>
    refine ⟨?_, ?_, ?_, ?_, ?_, ?_, ?_, ?_, ?_, ?_, ?_, ?_, ?_, ?_, ?_, ?_, ?_, ?_, ?_, ?_, ?_, ?_, ?_, ?_, ?_, ?_, ?_, ?_, ?_, ?_, ?_, ?_, ?_, ?_, ?_, trivial⟩
    · refine stepOk_value rfl fun a w5 ht => ?_
      have e0 : a.tmps[0]?.getD undef = .slice ao n c1 := ht.old' 0 (.slice ao n c1) (by kernel_rfl) rfl
      exact ⟨Value.slice ao n c1, w5, by go_simp, Below.refl _ _, rfl⟩
    · refine stepOk_value rfl fun a w5 ht => ?_
      have e10 : a.tmps[10]?.getD undef = Value.slice ao n c1 := ht.dep' 0 10 (by kernel_rfl) rfl
      exact ⟨.int .i64 (n : Int), w5, by go_simp, Below.refl _ _, rfl⟩
    · refine stepOk_value rfl fun a w5 ht => ?_
      have e11 : a.tmps[11]?.getD undef = .int .i64 (n : Int) := ht.dep' 1 11 (by kernel_rfl) rfl
      exact ⟨.bool false, w5, by go_simp, Below.refl _ _, rfl⟩
    · refine stepOk_value rfl fun a w5 ht => ?_
      have e12 : a.tmps[12]?.getD undef = .bool false := ht.dep' 2 12 (by kernel_rfl) rfl
      exact ⟨.bool false, w5, by go_simp, Below.refl _ _, rfl⟩
    · refine stepOk_value_guarded 3 13 false rfl (by kernel_rfl) rfl (Nat.le_of_ble_eq_true rfl) (fun w v h => h) fun a w5 ht => ?_
      have e1 : a.tmps[1]?.getD undef = .slice bo m c2 := ht.old' 1 (.slice bo m c2) (by kernel_rfl) rfl
      exact ⟨.slice bo m c2, w5, by go_simp, Below.refl _ _, rfl⟩
    · refine stepOk_value_guarded 3 13 false rfl (by kernel_rfl) rfl (Nat.le_of_ble_eq_true rfl) (fun w v h => h) fun a w5 ht => ?_
      have e14 : a.tmps[14]?.getD undef = .slice bo m c2 := ht.dep' 4 14 (by kernel_rfl) rfl
      exact ⟨.int .i64 (m : Int), w5, by go_simp, Below.refl _ _, rfl⟩
    · refine stepOk_value_guarded 3 13 false rfl (by kernel_rfl) rfl (Nat.le_of_ble_eq_true rfl) (fun w v h => h) fun a w5 ht => ?_
      have e15 : a.tmps[15]?.getD undef = .int .i64 (m : Int) := ht.dep' 5 15 (by kernel_rfl) rfl
      exact ⟨.bool false, w5, by go_simp, Below.refl _ _, rfl⟩
    · refine stepOk_value rfl fun a w5 ht => ?_
      have e13 : a.tmps[13]?.getD undef = .bool false := ht.dep' 3 13 (by kernel_rfl) rfl
      have e16 : a.tmps[16]?.getD undef = .bool false := ht.dep' 6 16 (by kernel_rfl) rfl
      exact ⟨.bool false, w5, by go_simp, Below.refl _ _, rfl⟩
    · refine stepOk_value rfl fun a w5 ht => ?_
      have e17 : a.tmps[17]?.getD undef = .bool false := ht.dep' 7 17 (by kernel_rfl) rfl
      exact ⟨.bool false, w5, by go_simp, Below.refl _ _, rfl⟩
    · refine stepOk_value_guarded 8 18 false rfl (by kernel_rfl) rfl (Nat.le_of_ble_eq_true rfl) (fun w v h => h) fun a w5 ht => ?_
      have e0 : a.tmps[0]?.getD undef = .slice ao n c1 := ht.old' 0 (.slice ao n c1) (by kernel_rfl) rfl
      exact ⟨.slice ao n c1, w5, by go_simp, Below.refl _ _, rfl⟩
    · refine stepOk_call_guarded 8 18 false rfl (by kernel_rfl) rfl (Nat.le_of_ble_eq_true rfl) (fun w v h => h) fun a w5 ht => ?_
      have e19 : a.tmps[19]?.getD undef = .slice ao n c1 := ht.dep' 9 19 (by kernel_rfl) rfl
      refine ⟨70, #[.slice ao n c1], by go_simp, (CGA.out w5 ht.below).mono ?_⟩
      rintro e w' ⟨rfl, hb⟩
      exact ⟨_, rfl, hb, rfl⟩
    · refine stepOk_value_guarded 8 18 false rfl (by kernel_rfl) rfl (Nat.le_of_ble_eq_true rfl) (fun w v h => h) fun a w5 ht => ?_
      have e20 : a.tmps[20]?.getD undef = .bool false := ht.dep' 10 20 (by kernel_rfl) rfl
      exact ⟨.bool true, w5, by go_simp, Below.refl _ _, rfl⟩
    · refine stepOk_value rfl fun a w5 ht => ?_
      have e18 : a.tmps[18]?.getD undef = .bool false := ht.dep' 8 18 (by kernel_rfl) rfl
      have e21 : a.tmps[21]?.getD undef = .bool true := ht.dep' 11 21 (by kernel_rfl) rfl
      exact ⟨.bool true, w5, by go_simp, Below.refl _ _, rfl⟩
    · refine stepOk_value rfl fun a w5 ht => ?_
      have e22 : a.tmps[22]?.getD undef = .bool true := ht.dep' 12 22 (by kernel_rfl) rfl
      exact ⟨.bool true, w5, by go_simp, Below.refl _ _, rfl⟩
    · exact stepOk_skip 13 23 false true rfl (by decide) (by kernel_rfl) rfl (Nat.le_of_ble_eq_true rfl) (fun w v h => h) (fun w => rfl)
    · exact stepOk_skip 13 23 false true rfl (by decide) (by kernel_rfl) rfl (Nat.le_of_ble_eq_true rfl) (fun w v h => h) (fun w => rfl)
    · exact stepOk_skip 13 23 false true rfl (by decide) (by kernel_rfl) rfl (Nat.le_of_ble_eq_true rfl) (fun w v h => h) (fun w => rfl)
    · refine stepOk_value rfl fun a w5 ht => ?_
      have e23 : a.tmps[23]?.getD undef = .bool true := ht.dep' 13 23 (by kernel_rfl) rfl
      exact ⟨.bool true, w5, by go_simp, Below.refl _ _, rfl⟩
    · refine stepOk_value rfl fun a w5 ht => ?_
      have e27 : a.tmps[27]?.getD undef = .bool true := ht.dep' 17 27 (by kernel_rfl) rfl
      exact ⟨.bool true, w5, by go_simp, Below.refl _ _, rfl⟩
    · exact stepOk_skip 18 28 false true rfl (by decide) (by kernel_rfl) rfl (Nat.le_of_ble_eq_true rfl) (fun w v h => h) (fun w => rfl)
    · exact stepOk_skip 18 28 false true rfl (by decide) (by kernel_rfl) rfl (Nat.le_of_ble_eq_true rfl) (fun w v h => h) (fun w => rfl)
    · exact stepOk_skip 18 28 false true rfl (by decide) (by kernel_rfl) rfl (Nat.le_of_ble_eq_true rfl) (fun w v h => h) (fun w => rfl)
    · exact stepOk_skip 18 28 false true rfl (by decide) (by kernel_rfl) rfl (Nat.le_of_ble_eq_true rfl) (fun w v h => h) (fun w => rfl)
    · exact stepOk_skip 18 28 false true rfl (by decide) (by kernel_rfl) rfl (Nat.le_of_ble_eq_true rfl) (fun w v h => h) (fun w => rfl)
    · exact stepOk_skip 18 28 false true rfl (by decide) (by kernel_rfl) rfl (Nat.le_of_ble_eq_true rfl) (fun w v h => h) (fun w => rfl)
    · exact stepOk_skip 18 28 false true rfl (by decide) (by kernel_rfl) rfl (Nat.le_of_ble_eq_true rfl) (fun w v h => h) (fun w => rfl)
    · exact stepOk_skip 18 28 false true rfl (by decide) (by kernel_rfl) rfl (Nat.le_of_ble_eq_true rfl) (fun w v h => h) (fun w => rfl)
    · exact stepOk_skip 18 28 false true rfl (by decide) (by kernel_rfl) rfl (Nat.le_of_ble_eq_true rfl) (fun w v h => h) (fun w => rfl)
    · exact stepOk_skip 18 28 false true rfl (by decide) (by kernel_rfl) rfl (Nat.le_of_ble_eq_true rfl) (fun w v h => h) (fun w => rfl)
    · exact stepOk_skip 18 28 false true rfl (by decide) (by kernel_rfl) rfl (Nat.le_of_ble_eq_true rfl) (fun w v h => h) (fun w => rfl)
    · exact stepOk_skip 18 28 false true rfl (by decide) (by kernel_rfl) rfl (Nat.le_of_ble_eq_true rfl) (fun w v h => h) (fun w => rfl)
    · exact stepOk_skip 18 28 false true rfl (by decide) (by kernel_rfl) rfl (Nat.le_of_ble_eq_true rfl) (fun w v h => h) (fun w => rfl)
    · exact stepOk_skip 18 28 false true rfl (by decide) (by kernel_rfl) rfl (Nat.le_of_ble_eq_true rfl) (fun w v h => h) (fun w => rfl)
    · exact stepOk_skip 18 28 false true rfl (by decide) (by kernel_rfl) rfl (Nat.le_of_ble_eq_true rfl) (fun w v h => h) (fun w => rfl)
    · refine stepOk_value rfl fun a w5 ht => ?_
      have e28 : a.tmps[28]?.getD undef = .bool true := ht.dep' 18 28 (by kernel_rfl) rfl
      exact ⟨.bool true, w5, by go_simp, Below.refl _ _, rfl⟩
  case hd =>
    intro vs w8 hl hb8 hvs
    have hl : vs.length = 35 := hl
    obtain ⟨v0, r0, rfl, l0⟩ := uncons vs hl
    obtain ⟨v1, r1, rfl, l1⟩ := uncons r0 l0
    obtain ⟨v2, r2, rfl, l2⟩ := uncons r1 l1
    obtain ⟨v3, r3, rfl, l3⟩ := uncons r2 l2
    obtain ⟨v4, r4, rfl, l4⟩ := uncons r3 l3
    obtain ⟨v5, r5, rfl, l5⟩ := uncons r4 l4
    obtain ⟨v6, r6, rfl, l6⟩ := uncons r5 l5
    obtain ⟨v7, r7, rfl, l7⟩ := uncons r6 l6
    obtain ⟨v8, r8, rfl, l8⟩ := uncons r7 l7
    obtain ⟨v9, r9, rfl, l9⟩ := uncons r8 l8
    obtain ⟨v10, r10, rfl, l10⟩ := uncons r9 l9
    obtain ⟨v11, r11, rfl, l11⟩ := uncons r10 l10
    obtain ⟨v12, r12, rfl, l12⟩ := uncons r11 l11
    obtain ⟨v13, r13, rfl, l13⟩ := uncons r12 l12
    obtain ⟨v14, r14, rfl, l14⟩ := uncons r13 l13
    obtain ⟨v15, r15, rfl, l15⟩ := uncons r14 l14
    obtain ⟨v16, r16, rfl, l16⟩ := uncons r15 l15
    obtain ⟨v17, r17, rfl, l17⟩ := uncons r16 l16
    obtain ⟨v18, r18, rfl, l18⟩ := uncons r17 l17
    obtain ⟨v19, r19, rfl, l19⟩ := uncons r18 l18
    obtain ⟨v20, r20, rfl, l20⟩ := uncons r19 l19
    obtain ⟨v21, r21, rfl, l21⟩ := uncons r20 l20
    obtain ⟨v22, r22, rfl, l22⟩ := uncons r21 l21
    obtain ⟨v23, r23, rfl, l23⟩ := uncons r22 l22
    obtain ⟨v24, r24, rfl, l24⟩ := uncons r23 l23
    obtain ⟨v25, r25, rfl, l25⟩ := uncons r24 l24
    obtain ⟨v26, r26, rfl, l26⟩ := uncons r25 l25
    obtain ⟨v27, r27, rfl, l27⟩ := uncons r26 l26
    obtain ⟨v28, r28, rfl, l28⟩ := uncons r27 l27
    obtain ⟨v29, r29, rfl, l29⟩ := uncons r28 l28
    obtain ⟨v30, r30, rfl, l30⟩ := uncons r29 l29
    obtain ⟨v31, r31, rfl, l31⟩ := uncons r30 l30
    obtain ⟨v32, r32, rfl, l32⟩ := uncons r31 l31
    obtain ⟨v33, r33, rfl, l33⟩ := uncons r32 l32
    obtain ⟨v34, r34, rfl, l34⟩ := uncons r33 l33
    obtain rfl := List.eq_nil_of_length_eq_zero l34
    have h34 : v34 = .bool true := hvs 34 (by decide)
    subst h34
    clear hvs
    simp only [puts, List.map, go_sem, List.setIfInBounds_toArray, List.set_cons_succ, List.set_cons_zero]
    have HB8 := Lib.hid hb8
    clear hb8
    go_wp2_with fail
    go_ret3
    exact ⟨rfl, HB8.out⟩

set_option maxRecDepth 100000 in
set_option maxHeartbeats 2000000 in
theorem clashF_4 (ao bo : Option Addr) (n m c1 c2 : Nat) (w : World) (hn : ((n : Int) == 0) = false)
    (hm : ((m : Int) == 0) = false)
    (CGA : Hid (∀ w', Below w.heap.size w w' → Calls Try.prog 70 #[.slice ao n c1] w' fun e w'' => e = .returned (.bool true) ∧ Below w'.heap.size w' w''))
    (CGB : Hid (∀ w', Below w.heap.size w w' → Calls Try.prog 70 #[.slice bo m c2] w' fun e w'' => e = .returned (.bool false) ∧ Below w'.heap.size w' w'')) :
    Calls Try.prog 39 #[.slice ao n c1, .slice bo m c2] w fun e w' => e = .returned (.tuple #[.string ByteArray.empty, .string ByteArray.empty, .bool false]) ∧ Below w.heap.size w w' := by
  go_enter Try.func39, Try.ntmps39
  go_upto_region 1 with fail
  refine wp_region_puts2 (R := fun qi w' v => v = [Value.slice ao n c1, .int .i64 (n : Int), .bool false, .bool false, .slice bo m c2, .int .i64 (m : Int), .bool false, .bool false, .bool false, .slice ao n c1, .bool true, .bool false, .bool false, .bool false, .slice bo m c2, .bool false, .bool true, .bool true, .bool true, undef, undef, undef, undef, undef, undef, undef, undef, undef, undef, undef, undef, undef, undef, undef, .bool true].getD qi undef)
    (by kernel_rfl) (by kernel_rfl) (by kernel_rfl) ?hRR (by kernel_rfl) (steps_of ?hs) ?hd
  case hRR =>
    intro qi w1 w2 v hb hv
    exact hv
  case hs =>
    refine ⟨?_, ?_, ?_, ?_, ?_, ?_, ?_, ?_, ?_, ?_, ?_, ?_, ?_, ?_, ?_, ?_, ?_, ?_, ?_, ?_, ?_, ?_, ?_, ?_, ?_, ?_, ?_, ?_, ?_, ?_, ?_, ?_, ?_, ?_, ?_, trivial⟩
    · refine stepOk_value rfl fun a w5 ht => ?_
      have e0 : a.tmps[0]?.getD undef = .slice ao n c1 := ht.old' 0 (.slice ao n c1) (by kernel_rfl) rfl
      exact ⟨Value.slice ao n c1, w5, by go_simp, Below.refl _ _, rfl⟩
    · refine stepOk_value rfl fun a w5 ht => ?_
      have e10 : a.tmps[10]?.getD undef = Value.slice ao n c1 := ht.dep' 0 10 (by kernel_rfl) rfl
      exact ⟨.int .i64 (n : Int), w5, by go_simp, Below.refl _ _, rfl⟩
    · refine stepOk_value rfl fun a w5 ht => ?_
      have e11 : a.tmps[11]?.getD undef = .int .i64 (n : Int) := ht.dep' 1 11 (by kernel_rfl) rfl
      exact ⟨.bool false, w5, by go_simp, Below.refl _ _, rfl⟩
    · refine stepOk_value rfl fun a w5 ht => ?_
      have e12 : a.tmps[12]?.getD undef = .bool false := ht.dep' 2 12 (by kernel_rfl) rfl
      exact ⟨.bool false, w5, by go_simp, Below.refl _ _, rfl⟩
    · refine stepOk_value_guarded 3 13 false rfl (by kernel_rfl) rfl (Nat.le_of_ble_eq_true rfl) (fun w v h => h) fun a w5 ht => ?_
      have e1 : a.tmps[1]?.getD undef = .slice bo m c2 := ht.old' 1 (.slice bo m c2) (by kernel_rfl) rfl
      exact ⟨.slice bo m c2, w5, by go_simp, Below.refl _ _, rfl⟩
    · refine stepOk_value_guarded 3 13 false rfl (by kernel_rfl) rfl (Nat.le_of_ble_eq_true rfl) (fun w v h => h) fun a w5 ht => ?_
      have e14 : a.tmps[14]?.getD undef = .slice bo m c2 := ht.dep' 4 14 (by kernel_rfl) rfl
      exact ⟨.int .i64 (m : Int), w5, by go_simp, Below.refl _ _, rfl⟩
    · refine stepOk_value_guarded 3 13 false rfl (by kernel_rfl) rfl (Nat.le_of_ble_eq_true rfl) (fun w v h => h) fun a w5 ht => ?_
      have e15 : a.tmps[15]?.getD undef = .int .i64 (m : Int) := ht.dep' 5 15 (by kernel_rfl) rfl
      exact ⟨.bool false, w5, by go_simp, Below.refl _ _, rfl⟩
    · refine stepOk_value rfl fun a w5 ht => ?_
      have e13 : a.tmps[13]?.getD undef = .bool false := ht.dep' 3 13 (by kernel_rfl) rfl
      have e16 : a.tmps[16]?.getD undef = .bool false := ht.dep' 6 16 (by kernel_rfl) rfl
      exact ⟨.bool false, w5, by go_simp, Below.refl _ _, rfl⟩
    · refine stepOk_value rfl fun a w5 ht => ?_
      have e17 : a.tmps[17]?.getD undef = .bool false := ht.dep' 7 17 (by kernel_rfl) rfl
      exact ⟨.bool false, w5, by go_simp, Below.refl _ _, rfl⟩
    · refine stepOk_value_guarded 8 18 false rfl (by kernel_rfl) rfl (Nat.le_of_ble_eq_true rfl) (fun w v h => h) fun a w5 ht => ?_
      have e0 : a.tmps[0]?.getD undef = .slice ao n c1 := ht.old' 0 (.slice ao n c1) (by kernel_rfl) rfl
      exact ⟨.slice ao n c1, w5, by go_simp, Below.refl _ _, rfl⟩
    · refine stepOk_call_guarded 8 18 false rfl (by kernel_rfl) rfl (Nat.le_of_ble_eq_true rfl) (fun w v h => h) fun a w5 ht => ?_
      have e19 : a.tmps[19]?.getD undef = .slice ao n c1 := ht.dep' 9 19 (by kernel_rfl) rfl
      refine ⟨70, #[.slice ao n c1], by go_simp, (CGA.out w5 ht.below).mono ?_⟩
      rintro e w' ⟨rfl, hb⟩
      exact ⟨_, rfl, hb, rfl⟩
    · refine stepOk_value_guarded 8 18 false rfl (by kernel_rfl) rfl (Nat.le_of_ble_eq_true rfl) (fun w v h => h) fun a w5 ht => ?_
      have e20 : a.tmps[20]?.getD undef = .bool true := ht.dep' 10 20 (by kernel_rfl) rfl
      exact ⟨.bool false, w5, by go_simp, Below.refl _ _, rfl⟩
    · refine stepOk_value rfl fun a w5 ht => ?_
      have e18 : a.tmps[18]?.getD undef = .bool false := ht.dep' 8 18 (by kernel_rfl) rfl
      have e21 : a.tmps[21]?.getD undef = .bool false := ht.dep' 11 21 (by kernel_rfl) rfl
      exact ⟨.bool false, w5, by go_simp, Below.refl _ _, rfl⟩
    · refine stepOk_value rfl fun a w5 ht => ?_
      have e22 : a.tmps[22]?.getD undef = .bool false := ht.dep' 12 22 (by kernel_rfl) rfl
      exact ⟨.bool false, w5, by go_simp, Below.refl _ _, rfl⟩
    · refine stepOk_value_guarded 13 23 false rfl (by kernel_rfl) rfl (Nat.le_of_ble_eq_true rfl) (fun w v h => h) fun a w5 ht => ?_
      have e1 : a.tmps[1]?.getD undef = .slice bo m c2 := ht.old' 1 (.slice bo m c2) (by kernel_rfl) rfl
      exact ⟨.slice bo m c2, w5, by go_simp, Below.refl _ _, rfl⟩
    · refine stepOk_call_guarded 13 23 false rfl (by kernel_rfl) rfl (Nat.le_of_ble_eq_true rfl) (fun w v h => h) fun a w5 ht => ?_
      have e24 : a.tmps[24]?.getD undef = .slice bo m c2 := ht.dep' 14 24 (by kernel_rfl) rfl
      refine ⟨70, #[.slice bo m c2], by go_simp, (CGB.out w5 ht.below).mono ?_⟩
      rintro e w' ⟨rfl, hb⟩
      exact ⟨_, rfl, hb, rfl⟩
    · refine stepOk_value_guarded 13 23 false rfl (by kernel_rfl) rfl (Nat.le_of_ble_eq_true rfl) (fun w v h => h) fun a w5 ht => ?_
      have e25 : a.tmps[25]?.getD undef = .bool false := ht.dep' 15 25 (by kernel_rfl) rfl
      exact ⟨.bool true, w5, by go_simp, Below.refl _ _, rfl⟩
    · refine stepOk_value rfl fun a w5 ht => ?_
      have e23 : a.tmps[23]?.getD undef = .bool false := ht.dep' 13 23 (by kernel_rfl) rfl
      have e26 : a.tmps[26]?.getD undef = .bool true := ht.dep' 16 26 (by kernel_rfl) rfl
      exact ⟨.bool true, w5, by go_simp, Below.refl _ _, rfl⟩
    · refine stepOk_value rfl fun a w5 ht => ?_
      have e27 : a.tmps[27]?.getD undef = .bool true := ht.dep' 17 27 (by kernel_rfl) rfl
      exact ⟨.bool true, w5, by go_simp, Below.refl _ _, rfl⟩
    · exact stepOk_skip 18 28 false true rfl (by decide) (by kernel_rfl) rfl (Nat.le_of_ble_eq_true rfl) (fun w v h => h) (fun w => rfl)
    · exact stepOk_skip 18 28 false true rfl (by decide) (by kernel_rfl) rfl (Nat.le_of_ble_eq_true rfl) (fun w v h => h) (fun w => rfl)
    · exact stepOk_skip 18 28 false true rfl (by decide) (by kernel_rfl) rfl (Nat.le_of_ble_eq_true rfl) (fun w v h => h) (fun w => rfl)
    · exact stepOk_skip 18 28 false true rfl (by decide) (by kernel_rfl) rfl (Nat.le_of_ble_eq_true rfl) (fun w v h => h) (fun w => rfl)
    · exact stepOk_skip 18 28 false true rfl (by decide) (by kernel_rfl) rfl (Nat.le_of_ble_eq_true rfl) (fun w v h => h) (fun w => rfl)
    · exact stepOk_skip 18 28 false true rfl (by decide) (by kernel_rfl) rfl (Nat.le_of_ble_eq_true rfl) (fun w v h => h) (fun w => rfl)
    · exact stepOk_skip 18 28 false true rfl (by decide) (by kernel_rfl) rfl (Nat.le_of_ble_eq_true rfl) (fun w v h => h) (fun w => rfl)
    · exact stepOk_skip 18 28 false true rfl (by decide) (by kernel_rfl) rfl (Nat.le_of_ble_eq_true rfl) (fun w v h => h) (fun w => rfl)
    · exact stepOk_skip 18 28 false true rfl (by decide) (by kernel_rfl) rfl (Nat.le_of_ble_eq_true rfl) (fun w v h => h) (fun w => rfl)
    · exact stepOk_skip 18 28 false true rfl (by decide) (by kernel_rfl) rfl (Nat.le_of_ble_eq_true rfl) (fun w v h => h) (fun w => rfl)
    · exact stepOk_skip 18 28 false true rfl (by decide) (by kernel_rfl) rfl (Nat.le_of_ble_eq_true rfl) (fun w v h => h) (fun w => rfl)
    · exact stepOk_skip 18 28 false true rfl (by decide) (by kernel_rfl) rfl (Nat.le_of_ble_eq_true rfl) (fun w v h => h) (fun w => rfl)
    · exact stepOk_skip 18 28 false true rfl (by decide) (by kernel_rfl) rfl (Nat.le_of_ble_eq_true rfl) (fun w v h => h) (fun w => rfl)
    · exact stepOk_skip 18 28 false true rfl (by decide) (by kernel_rfl) rfl (Nat.le_of_ble_eq_true rfl) (fun w v h => h) (fun w => rfl)
    · exact stepOk_skip 18 28 false true rfl (by decide) (by kernel_rfl) rfl (Nat.le_of_ble_eq_true rfl) (fun w v h => h) (fun w => rfl)
    · refine stepOk_value rfl fun a w5 ht => ?_
      have e28 : a.tmps[28]?.getD undef = .bool true := ht.dep' 18 28 (by kernel_rfl) rfl
      exact ⟨.bool true, w5, by go_simp, Below.refl _ _, rfl⟩
  case hd =>
    intro vs w8 hl hb8 hvs
    have hl : vs.length = 35 := hl
    obtain ⟨v0, r0, rfl, l0⟩ := uncons vs hl
    obtain ⟨v1, r1, rfl, l1⟩ := uncons r0 l0
    obtain ⟨v2, r2, rfl, l2⟩ := uncons r1 l1
    obtain ⟨v3, r3, rfl, l3⟩ := uncons r2 l2
    obtain ⟨v4, r4, rfl, l4⟩ := uncons r3 l3
    obtain ⟨v5, r5, rfl, l5⟩ := uncons r4 l4
    obtain ⟨v6, r6, rfl, l6⟩ := uncons r5 l5
    obtain ⟨v7, r7, rfl, l7⟩ := uncons r6 l6
    obtain ⟨v8, r8, rfl, l8⟩ := uncons r7 l7
    obtain ⟨v9, r9, rfl, l9⟩ := uncons r8 l8
    obtain ⟨v10, r10, rfl, l10⟩ := uncons r9 l9
    obtain ⟨v11, r11, rfl, l11⟩ := uncons r10 l10
    obtain ⟨v12, r12, rfl, l12⟩ := uncons r11 l11
    obtain ⟨v13, r13, rfl, l13⟩ := uncons r12 l12
    obtain ⟨v14, r14, rfl, l14⟩ := uncons r13 l13
    obtain ⟨v15, r15, rfl, l15⟩ := uncons r14 l14
    obtain ⟨v16, r16, rfl, l16⟩ := uncons r15 l15
    obtain ⟨v17, r17, rfl, l17⟩ := uncons r16 l16
    obtain ⟨v18, r18, rfl, l18⟩ := uncons r17 l17
    obtain ⟨v19, r19, rfl, l19⟩ := uncons r18 l18
    obtain ⟨v20, r20, rfl, l20⟩ := uncons r19 l19
    obtain ⟨v21, r21, rfl, l21⟩ := uncons r20 l20
    obtain ⟨v22, r22, rfl, l22⟩ := uncons r21 l21
    obtain ⟨v23, r23, rfl, l23⟩ := uncons r22 l22
    obtain ⟨v24, r24, rfl, l24⟩ := uncons r23 l23
    obtain ⟨v25, r25, rfl, l25⟩ := uncons r24 l24
    obtain ⟨v26, r26, rfl, l26⟩ := uncons r25 l25
    obtain ⟨v27, r27, rfl, l27⟩ := uncons r26 l26
    obtain ⟨v28, r28, rfl, l28⟩ := uncons r27 l27
    obtain ⟨v29, r29, rfl, l29⟩ := uncons r28 l28
    obtain ⟨v30, r30, rfl, l30⟩ := uncons r29 l29
    obtain ⟨v31, r31, rfl, l31⟩ := uncons r30 l30
    obtain ⟨v32, r32, rfl, l32⟩ := uncons r31 l31
    obtain ⟨v33, r33, rfl, l33⟩ := uncons r32 l32
    obtain ⟨v34, r34, rfl, l34⟩ := uncons r33 l33
    obtain rfl := List.eq_nil_of_length_eq_zero l34
    have h34 : v34 = .bool true := hvs 34 (by decide)
    subst h34
    clear hvs
    simp only [puts, List.map, go_sem, List.setIfInBounds_toArray, List.set_cons_succ, List.set_cons_zero]
    have HB8 := Lib.hid hb8
    clear hb8
    go_wp2_with fail
    go_ret3
    exact ⟨rfl, HB8.out⟩

set_option maxRecDepth 100000 in
set_option maxHeartbeats 2000000 in
theorem clashF_5 (n m c1 c2 b1 o1 b2 o2 na nb : Nat) (xs ys : Int) (xp xb yp yb ha hb : ByteArray) (w : World) (hn : ((n : Int) == 0) = false)
    (hm : ((m : Int) == 0) = false)
    (CGA : Hid (∀ w', Below w.heap.size w w' → Calls Try.prog 70 #[.slice (some ⟨b1, o1, none⟩) n c1] w' fun e w'' => e = .returned (.bool true) ∧ Below w'.heap.size w' w''))
    (CGB : Hid (∀ w', Below w.heap.size w w' → Calls Try.prog 70 #[.slice (some ⟨b2, o2, none⟩) m c2] w' fun e w'' => e = .returned (.bool true) ∧ Below w'.heap.size w' w''))
    (hna : (n : Int) - 1 = (na : Int)) (hnb : (m : Int) - 1 = (nb : Int)) (hnal : (na : Int) < (n : Int)) (hnbl : (nb : Int) < (m : Int)) (hnl : (n : Int) ≤ 100000) (hml : (m : Int) ≤ 100000)
    (hx : EntAt w b1 (o1 + na * 3) ⟨xs, xp, xb⟩) (hy : EntAt w b2 (o2 + nb * 3) ⟨ys, yp, yb⟩)
    (CHA : Hid (∀ w', Calls Try.prog 49 #[.agg #[.int .i64 xs, .string xp, .string xb]] w' fun e w'' => e = .returned (.string ha) ∧ Below w'.heap.size w' w''))
    (CHB : Hid (∀ w', Calls Try.prog 49 #[.agg #[.int .i64 ys, .string yp, .string yb]] w' fun e w'' => e = .returned (.string hb) ∧ Below w'.heap.size w' w''))
    (hne : (ha.toList == hb.toList) = false) :
    Calls Try.prog 39 #[.slice (some ⟨b1, o1, none⟩) n c1, .slice (some ⟨b2, o2, none⟩) m c2] w fun e w' => e = .returned (.tuple #[.string ByteArray.empty, .string ByteArray.empty, .bool false]) ∧ Below w.heap.size w w' := by
  have hne2 : (ha.toList != hb.toList) = true := by unfold bne; rw [hne]; rfl
  obtain ⟨hx0, hx1, hx2⟩ := hx
  obtain ⟨hy0, hy1, hy2⟩ := hy
  simp only at hx0 hx1 hx2 hy0 hy1 hy2
  have hna0 : (0 : Int) ≤ (na : Int) := Int.natCast_nonneg _
  have hnb0 : (0 : Int) ≤ (nb : Int) := Int.natCast_nonneg _
  have qa : IntKind.i64.wrap (na : Int) = (na : Int) := IntWalk.i64_in _ ⟨by omega, by omega⟩
  have qb : IntKind.i64.wrap (nb : Int) = (nb : Int) := IntWalk.i64_in _ ⟨by omega, by omega⟩
  clear hnl hml
  go_enter Try.func39, Try.ntmps39
  go_upto_region 1 with fail
  refine wp_region_puts2 (R := fun qi w' v => v = [Value.slice (some ⟨b1, o1, none⟩) n c1, .int .i64 (n : Int), .bool false, .bool false, .slice (some ⟨b2, o2, none⟩) m c2, .int .i64 (m : Int), .bool false, .bool false, .bool false, .slice (some ⟨b1, o1, none⟩) n c1, .bool true, .bool false, .bool false, .bool false, .slice (some ⟨b2, o2, none⟩) m c2, .bool true, .bool false, .bool false, .bool false, .slice (some ⟨b1, o1, none⟩) n c1, .slice (some ⟨b1, o1, none⟩) n c1, .int .i64 (n : Int), .int .i64 (na : Int), .pointer (some ⟨b1, o1 + na * 3, none⟩), .agg #[.int .i64 xs, .string xp, .string xb], .string ha, .slice (some ⟨b2, o2, none⟩) m c2, .slice (some ⟨b2, o2, none⟩) m c2, .int .i64 (m : Int), .int .i64 (nb : Int), .pointer (some ⟨b2, o2 + nb * 3, none⟩), .agg #[.int .i64 ys, .string yp, .string yb], .string hb, .bool true, .bool true].getD qi undef)
    (by kernel_rfl) (by kernel_rfl) (by kernel_rfl) ?hRR (by kernel_rfl) (steps_of ?hs) ?hd
  case hRR =>
    intro qi w1 w2 v hb hv
    exact hv
  case hs =>
    refine ⟨?_, ?_, ?_, ?_, ?_, ?_, ?_, ?_, ?_, ?_, ?_, ?_, ?_, ?_, ?_, ?_, ?_, ?_, ?_, ?_, ?_, ?_, ?_, ?_, ?_, ?_, ?_, ?_, ?_, ?_, ?_, ?_, ?_, ?_, ?_, trivial⟩
    · refine stepOk_value rfl fun a w5 ht => ?_
      have e0 : a.tmps[0]?.getD undef = .slice (some ⟨b1, o1, none⟩) n c1 := ht.old' 0 (.slice (some ⟨b1, o1, none⟩) n c1) (by kernel_rfl) rfl
      exact ⟨Value.slice (some ⟨b1, o1, none⟩) n c1, w5, by go_simp, Below.refl _ _, rfl⟩
    · refine stepOk_value rfl fun a w5 ht => ?_
      have e10 : a.tmps[10]?.getD undef = Value.slice (some ⟨b1, o1, none⟩) n c1 := ht.dep' 0 10 (by kernel_rfl) rfl
      exact ⟨.int .i64 (n : Int), w5, by go_simp, Below.refl _ _, rfl⟩
    · refine stepOk_value rfl fun a w5 ht => ?_
      have e11 : a.tmps[11]?.getD undef = .int .i64 (n : Int) := ht.dep' 1 11 (by kernel_rfl) rfl
      exact ⟨.bool false, w5, by go_simp, Below.refl _ _, rfl⟩
    · refine stepOk_value rfl fun a w5 ht => ?_
      have e12 : a.tmps[12]?.getD undef = .bool false := ht.dep' 2 12 (by kernel_rfl) rfl
      exact ⟨.bool false, w5, by go_simp, Below.refl _ _, rfl⟩
    · refine stepOk_value_guarded 3 13 false rfl (by kernel_rfl) rfl (Nat.le_of_ble_eq_true rfl) (fun w v h => h) fun a w5 ht => ?_
      have e1 : a.tmps[1]?.getD undef = .slice (some ⟨b2, o2, none⟩) m c2 := ht.old' 1 (.slice (some ⟨b2, o2, none⟩) m c2) (by kernel_rfl) rfl
      exact ⟨.slice (some ⟨b2, o2, none⟩) m c2, w5, by go_simp, Below.refl _ _, rfl⟩
    · refine stepOk_value_guarded 3 13 false rfl (by kernel_rfl) rfl (Nat.le_of_ble_eq_true rfl) (fun w v h => h) fun a w5 ht => ?_
      have e14 : a.tmps[14]?.getD undef = .slice (some ⟨b2, o2, none⟩) m c2 := ht.dep' 4 14 (by kernel_rfl) rfl
      exact ⟨.int .i64 (m : Int), w5, by go_simp, Below.refl _ _, rfl⟩
    · refine stepOk_value_guarded 3 13 false rfl (by kernel_rfl) rfl (Nat.le_of_ble_eq_true rfl) (fun w v h => h) fun a w5 ht => ?_
      have e15 : a.tmps[15]?.getD undef = .int .i64 (m : Int) := ht.dep' 5 15 (by kernel_rfl) rfl
      exact ⟨.bool false, w5, by go_simp, Below.refl _ _, rfl⟩
    · refine stepOk_value rfl fun a w5 ht => ?_
      have e13 : a.tmps[13]?.getD undef = .bool false := ht.dep' 3 13 (by kernel_rfl) rfl
      have e16 : a.tmps[16]?.getD undef = .bool false := ht.dep' 6 16 (by kernel_rfl) rfl
      exact ⟨.bool false, w5, by go_simp, Below.refl _ _, rfl⟩
    · refine stepOk_value rfl fun a w5 ht => ?_
      have e17 : a.tmps[17]?.getD undef = .bool false := ht.dep' 7 17 (by kernel_rfl) rfl
      exact ⟨.bool false, w5, by go_simp, Below.refl _ _, rfl⟩
    · refine stepOk_value_guarded 8 18 false rfl (by kernel_rfl) rfl (Nat.le_of_ble_eq_true rfl) (fun w v h => h) fun a w5 ht => ?_
      have e0 : a.tmps[0]?.getD undef = .slice (some ⟨b1, o1, none⟩) n c1 := ht.old' 0 (.slice (some ⟨b1, o1, none⟩) n c1) (by kernel_rfl) rfl
      exact ⟨.slice (some ⟨b1, o1, none⟩) n c1, w5, by go_simp, Below.refl _ _, rfl⟩
    · refine stepOk_call_guarded 8 18 false rfl (by kernel_rfl) rfl (Nat.le_of_ble_eq_true rfl) (fun w v h => h) fun a w5 ht => ?_
      have e19 : a.tmps[19]?.getD undef = .slice (some ⟨b1, o1, none⟩) n c1 := ht.dep' 9 19 (by kernel_rfl) rfl
      refine ⟨70, #[.slice (some ⟨b1, o1, none⟩) n c1], by go_simp, (CGA.out w5 ht.below).mono ?_⟩
      rintro e w' ⟨rfl, hb⟩
      exact ⟨_, rfl, hb, rfl⟩
    · refine stepOk_value_guarded 8 18 false rfl (by kernel_rfl) rfl (Nat.le_of_ble_eq_true rfl) (fun w v h => h) fun a w5 ht => ?_
      have e20 : a.tmps[20]?.getD undef = .bool true := ht.dep' 10 20 (by kernel_rfl) rfl
      exact ⟨.bool false, w5, by go_simp, Below.refl _ _, rfl⟩
    · refine stepOk_value rfl fun a w5 ht => ?_
      have e18 : a.tmps[18]?.getD undef = .bool false := ht.dep' 8 18 (by kernel_rfl) rfl
      have e21 : a.tmps[21]?.getD undef = .bool false := ht.dep' 11 21 (by kernel_rfl) rfl
      exact ⟨.bool false, w5, by go_simp, Below.refl _ _, rfl⟩
    · refine stepOk_value rfl fun a w5 ht => ?_
      have e22 : a.tmps[22]?.getD undef = .bool false := ht.dep' 12 22 (by kernel_rfl) rfl
      exact ⟨.bool false, w5, by go_simp, Below.refl _ _, rfl⟩
    · refine stepOk_value_guarded 13 23 false rfl (by kernel_rfl) rfl (Nat.le_of_ble_eq_true rfl) (fun w v h => h) fun a w5 ht => ?_
      have e1 : a.tmps[1]?.getD undef = .slice (some ⟨b2, o2, none⟩) m c2 := ht.old' 1 (.slice (some ⟨b2, o2, none⟩) m c2) (by kernel_rfl) rfl
      exact ⟨.slice (some ⟨b2, o2, none⟩) m c2, w5, by go_simp, Below.refl _ _, rfl⟩
    · refine stepOk_call_guarded 13 23 false rfl (by kernel_rfl) rfl (Nat.le_of_ble_eq_true rfl) (fun w v h => h) fun a w5 ht => ?_
      have e24 : a.tmps[24]?.getD undef = .slice (some ⟨b2, o2, none⟩) m c2 := ht.dep' 14 24 (by kernel_rfl) rfl
      refine ⟨70, #[.slice (some ⟨b2, o2, none⟩) m c2], by go_simp, (CGB.out w5 ht.below).mono ?_⟩
      rintro e w' ⟨rfl, hb⟩
      exact ⟨_, rfl, hb, rfl⟩
    · refine stepOk_value_guarded 13 23 false rfl (by kernel_rfl) rfl (Nat.le_of_ble_eq_true rfl) (fun w v h => h) fun a w5 ht => ?_
      have e25 : a.tmps[25]?.getD undef = .bool true := ht.dep' 15 25 (by kernel_rfl) rfl
      exact ⟨.bool false, w5, by go_simp, Below.refl _ _, rfl⟩
    · refine stepOk_value rfl fun a w5 ht => ?_
      have e23 : a.tmps[23]?.getD undef = .bool false := ht.dep' 13 23 (by kernel_rfl) rfl
      have e26 : a.tmps[26]?.getD undef = .bool false := ht.dep' 16 26 (by kernel_rfl) rfl
      exact ⟨.bool false, w5, by go_simp, Below.refl _ _, rfl⟩
    · refine stepOk_value rfl fun a w5 ht => ?_
      have e27 : a.tmps[27]?.getD undef = .bool false := ht.dep' 17 27 (by kernel_rfl) rfl
      exact ⟨.bool false, w5, by go_simp, Below.refl _ _, rfl⟩
    · refine stepOk_value_guarded 18 28 false rfl (by kernel_rfl) rfl (Nat.le_of_ble_eq_true rfl) (fun w v h => h) fun a w5 ht => ?_
      have e0 : a.tmps[0]?.getD undef = .slice (some ⟨b1, o1, none⟩) n c1 := ht.old' 0 (.slice (some ⟨b1, o1, none⟩) n c1) (by kernel_rfl) rfl
      exact ⟨.slice (some ⟨b1, o1, none⟩) n c1, w5, by go_simp, Below.refl _ _, rfl⟩
    · refine stepOk_value_guarded 18 28 false rfl (by kernel_rfl) rfl (Nat.le_of_ble_eq_true rfl) (fun w v h => h) fun a w5 ht => ?_
      have e0 : a.tmps[0]?.getD undef = .slice (some ⟨b1, o1, none⟩) n c1 := ht.old' 0 (.slice (some ⟨b1, o1, none⟩) n c1) (by kernel_rfl) rfl
      exact ⟨.slice (some ⟨b1, o1, none⟩) n c1, w5, by go_simp, Below.refl _ _, rfl⟩
    · refine stepOk_value_guarded 18 28 false rfl (by kernel_rfl) rfl (Nat.le_of_ble_eq_true rfl) (fun w v h => h) fun a w5 ht => ?_
      have e30 : a.tmps[30]?.getD undef = .slice (some ⟨b1, o1, none⟩) n c1 := ht.dep' 20 30 (by kernel_rfl) rfl
      exact ⟨.int .i64 (n : Int), w5, by go_simp, Below.refl _ _, rfl⟩
    · refine stepOk_value_guarded 18 28 false rfl (by kernel_rfl) rfl (Nat.le_of_ble_eq_true rfl) (fun w v h => h) fun a w5 ht => ?_
      have e31 : a.tmps[31]?.getD undef = .int .i64 (n : Int) := ht.dep' 21 31 (by kernel_rfl) rfl
      exact ⟨.int .i64 (na : Int), w5, by go_simp, Below.refl _ _, rfl⟩
    · refine stepOk_value_guarded 18 28 false rfl (by kernel_rfl) rfl (Nat.le_of_ble_eq_true rfl) (fun w v h => h) fun a w5 ht => ?_
      have e29 : a.tmps[29]?.getD undef = .slice (some ⟨b1, o1, none⟩) n c1 := ht.dep' 19 29 (by kernel_rfl) rfl
      have e32 : a.tmps[32]?.getD undef = .int .i64 (na : Int) := ht.dep' 22 32 (by kernel_rfl) rfl
      exact ⟨.pointer (some ⟨b1, o1 + na * 3, none⟩), w5, by go_simp, Below.refl _ _, rfl⟩
    · refine stepOk_value_guarded 18 28 false rfl (by kernel_rfl) rfl (Nat.le_of_ble_eq_true rfl) (fun w v h => h) fun a w5 ht => ?_
      have e33 : a.tmps[33]?.getD undef = .pointer (some ⟨b1, o1 + na * 3, none⟩) := ht.dep' 23 33 (by kernel_rfl) rfl
      have hc0 := (ht.below.cell (p := ⟨b1, o1 + na * 3, none⟩) (World.block_lt_of_cell? _ _ hx0)).trans hx0
      have hc1 := (ht.below.cell (p := ⟨b1, o1 + na * 3 + 1, none⟩) (World.block_lt_of_cell? _ _ hx1)).trans hx1
      have hc2 := (ht.below.cell (p := ⟨b1, o1 + na * 3 + 2, none⟩) (World.block_lt_of_cell? _ _ hx2)).trans hx2
      exact ⟨.agg #[.int .i64 xs, .string xp, .string xb], w5, by go_simp, Below.refl _ _, rfl⟩
    · refine stepOk_call_guarded 18 28 false rfl (by kernel_rfl) rfl (Nat.le_of_ble_eq_true rfl) (fun w v h => h) fun a w5 ht => ?_
      have e34 : a.tmps[34]?.getD undef = .agg #[.int .i64 xs, .string xp, .string xb] := ht.dep' 24 34 (by kernel_rfl) rfl
      refine ⟨49, #[.agg #[.int .i64 xs, .string xp, .string xb]], by go_simp, (CHA.out w5).mono ?_⟩
      rintro e w' ⟨rfl, hb⟩
      exact ⟨_, rfl, hb, rfl⟩
    · refine stepOk_value_guarded 18 28 false rfl (by kernel_rfl) rfl (Nat.le_of_ble_eq_true rfl) (fun w v h => h) fun a w5 ht => ?_
      have e1 : a.tmps[1]?.getD undef = .slice (some ⟨b2, o2, none⟩) m c2 := ht.old' 1 (.slice (some ⟨b2, o2, none⟩) m c2) (by kernel_rfl) rfl
      exact ⟨.slice (some ⟨b2, o2, none⟩) m c2, w5, by go_simp, Below.refl _ _, rfl⟩
    · refine stepOk_value_guarded 18 28 false rfl (by kernel_rfl) rfl (Nat.le_of_ble_eq_true rfl) (fun w v h => h) fun a w5 ht => ?_
      have e1 : a.tmps[1]?.getD undef = .slice (some ⟨b2, o2, none⟩) m c2 := ht.old' 1 (.slice (some ⟨b2, o2, none⟩) m c2) (by kernel_rfl) rfl
      exact ⟨.slice (some ⟨b2, o2, none⟩) m c2, w5, by go_simp, Below.refl _ _, rfl⟩
    · refine stepOk_value_guarded 18 28 false rfl (by kernel_rfl) rfl (Nat.le_of_ble_eq_true rfl) (fun w v h => h) fun a w5 ht => ?_
      have e37 : a.tmps[37]?.getD undef = .slice (some ⟨b2, o2, none⟩) m c2 := ht.dep' 27 37 (by kernel_rfl) rfl
      exact ⟨.int .i64 (m : Int), w5, by go_simp, Below.refl _ _, rfl⟩
    · refine stepOk_value_guarded 18 28 false rfl (by kernel_rfl) rfl (Nat.le_of_ble_eq_true rfl) (fun w v h => h) fun a w5 ht => ?_
      have e38 : a.tmps[38]?.getD undef = .int .i64 (m : Int) := ht.dep' 28 38 (by kernel_rfl) rfl
      exact ⟨.int .i64 (nb : Int), w5, by go_simp, Below.refl _ _, rfl⟩
    · refine stepOk_value_guarded 18 28 false rfl (by kernel_rfl) rfl (Nat.le_of_ble_eq_true rfl) (fun w v h => h) fun a w5 ht => ?_
      have e36 : a.tmps[36]?.getD undef = .slice (some ⟨b2, o2, none⟩) m c2 := ht.dep' 26 36 (by kernel_rfl) rfl
      have e39 : a.tmps[39]?.getD undef = .int .i64 (nb : Int) := ht.dep' 29 39 (by kernel_rfl) rfl
      exact ⟨.pointer (some ⟨b2, o2 + nb * 3, none⟩), w5, by go_simp, Below.refl _ _, rfl⟩
    · refine stepOk_value_guarded 18 28 false rfl (by kernel_rfl) rfl (Nat.le_of_ble_eq_true rfl) (fun w v h => h) fun a w5 ht => ?_
      have e40 : a.tmps[40]?.getD undef = .pointer (some ⟨b2, o2 + nb * 3, none⟩) := ht.dep' 30 40 (by kernel_rfl) rfl
      have hc0 := (ht.below.cell (p := ⟨b2, o2 + nb * 3, none⟩) (World.block_lt_of_cell? _ _ hy0)).trans hy0
      have hc1 := (ht.below.cell (p := ⟨b2, o2 + nb * 3 + 1, none⟩) (World.block_lt_of_cell? _ _ hy1)).trans hy1
      have hc2 := (ht.below.cell (p := ⟨b2, o2 + nb * 3 + 2, none⟩) (World.block_lt_of_cell? _ _ hy2)).trans hy2
      exact ⟨.agg #[.int .i64 ys, .string yp, .string yb], w5, by go_simp, Below.refl _ _, rfl⟩
    · refine stepOk_call_guarded 18 28 false rfl (by kernel_rfl) rfl (Nat.le_of_ble_eq_true rfl) (fun w v h => h) fun a w5 ht => ?_
      have e41 : a.tmps[41]?.getD undef = .agg #[.int .i64 ys, .string yp, .string yb] := ht.dep' 31 41 (by kernel_rfl) rfl
      refine ⟨49, #[.agg #[.int .i64 ys, .string yp, .string yb]], by go_simp, (CHB.out w5).mono ?_⟩
      rintro e w' ⟨rfl, hb⟩
      exact ⟨_, rfl, hb, rfl⟩
    · refine stepOk_value_guarded 18 28 false rfl (by kernel_rfl) rfl (Nat.le_of_ble_eq_true rfl) (fun w v h => h) fun a w5 ht => ?_
      have e35 : a.tmps[35]?.getD undef = .string ha := ht.dep' 25 35 (by kernel_rfl) rfl
      have e42 : a.tmps[42]?.getD undef = .string hb := ht.dep' 32 42 (by kernel_rfl) rfl
      exact ⟨.bool true, w5, by go_simp, Below.refl _ _, rfl⟩
    · refine stepOk_value rfl fun a w5 ht => ?_
      have e28 : a.tmps[28]?.getD undef = .bool false := ht.dep' 18 28 (by kernel_rfl) rfl
      have e43 : a.tmps[43]?.getD undef = .bool true := ht.dep' 33 43 (by kernel_rfl) rfl
      exact ⟨.bool true, w5, by go_simp, Below.refl _ _, rfl⟩
  case hd =>
    intro vs w8 hl hb8 hvs
    have hl : vs.length = 35 := hl
    obtain ⟨v0, r0, rfl, l0⟩ := uncons vs hl
    obtain ⟨v1, r1, rfl, l1⟩ := uncons r0 l0
    obtain ⟨v2, r2, rfl, l2⟩ := uncons r1 l1
    obtain ⟨v3, r3, rfl, l3⟩ := uncons r2 l2
    obtain ⟨v4, r4, rfl, l4⟩ := uncons r3 l3
    obtain ⟨v5, r5, rfl, l5⟩ := uncons r4 l4
    obtain ⟨v6, r6, rfl, l6⟩ := uncons r5 l5
    obtain ⟨v7, r7, rfl, l7⟩ := uncons r6 l6
    obtain ⟨v8, r8, rfl, l8⟩ := uncons r7 l7
    obtain ⟨v9, r9, rfl, l9⟩ := uncons r8 l8
    obtain ⟨v10, r10, rfl, l10⟩ := uncons r9 l9
    obtain ⟨v11, r11, rfl, l11⟩ := uncons r10 l10
    obtain ⟨v12, r12, rfl, l12⟩ := uncons r11 l11
    obtain ⟨v13, r13, rfl, l13⟩ := uncons r12 l12
    obtain ⟨v14, r14, rfl, l14⟩ := uncons r13 l13
    obtain ⟨v15, r15, rfl, l15⟩ := uncons r14 l14
    obtain ⟨v16, r16, rfl, l16⟩ := uncons r15 l15
    obtain ⟨v17, r17, rfl, l17⟩ := uncons r16 l16
    obtain ⟨v18, r18, rfl, l18⟩ := uncons r17 l17
    obtain ⟨v19, r19, rfl, l19⟩ := uncons r18 l18
    obtain ⟨v20, r20, rfl, l20⟩ := uncons r19 l19
    obtain ⟨v21, r21, rfl, l21⟩ := uncons r20 l20
    obtain ⟨v22, r22, rfl, l22⟩ := uncons r21 l21
    obtain ⟨v23, r23, rfl, l23⟩ := uncons r22 l22
    obtain ⟨v24, r24, rfl, l24⟩ := uncons r23 l23
    obtain ⟨v25, r25, rfl, l25⟩ := uncons r24 l24
    obtain ⟨v26, r26, rfl, l26⟩ := uncons r25 l25
    obtain ⟨v27, r27, rfl, l27⟩ := uncons r26 l26
    obtain ⟨v28, r28, rfl, l28⟩ := uncons r27 l27
    obtain ⟨v29, r29, rfl, l29⟩ := uncons r28 l28
    obtain ⟨v30, r30, rfl, l30⟩ := uncons r29 l29
    obtain ⟨v31, r31, rfl, l31⟩ := uncons r30 l30
    obtain ⟨v32, r32, rfl, l32⟩ := uncons r31 l31
    obtain ⟨v33, r33, rfl, l33⟩ := uncons r32 l32
    obtain ⟨v34, r34, rfl, l34⟩ := uncons r33 l33
    obtain rfl := List.eq_nil_of_length_eq_zero l34
    have h34 : v34 = .bool true := hvs 34 (by decide)
    subst h34
    clear hvs
    simp only [puts, List.map, go_sem, List.setIfInBounds_toArray, List.set_cons_succ, List.set_cons_zero]
    have HB8 := Lib.hid hb8
    clear hb8
    go_wp2_with fail
    go_ret3
    exact ⟨rfl, HB8.out⟩
end Go.Proofs.Ytbajgpbekanodaa
namespace Go.Proofs.Ytbajgpbekanodaa
open Go.RowKit

set_option maxRecDepth 100000 in
set_option maxHeartbeats 8000000 in
theorem clashF_yes (es fs : List Fd.Ent) (n m c1 c2 b1 o1 b2 o2 na nb : Nat) (xs ys : Int) (xp xb yp yb ha : ByteArray) (RS RT : ByteArray) (RB : Bool) (w : World) (hn : ((n : Int) == 0) = false) (hm : ((m : Int) == 0) = false)
    (hen : n = es.length) (hfm : m = fs.length)
    (CGA : Hid (∀ w', Below w.heap.size w w' → Calls Try.prog 70 #[.slice (some ⟨b1, o1, none⟩) n c1] w' fun e w'' => e = .returned (.bool true) ∧ Below w'.heap.size w' w''))
    (CGB : Hid (∀ w', Below w.heap.size w w' → Calls Try.prog 70 #[.slice (some ⟨b2, o2, none⟩) m c2] w' fun e w'' => e = .returned (.bool true) ∧ Below w'.heap.size w' w''))
    (hna : (n : Int) - 1 = (na : Int)) (hnb : (m : Int) - 1 = (nb : Int)) (hnal : (na : Int) < (n : Int)) (hnbl : (nb : Int) < (m : Int)) (hnl : (n : Int) ≤ 100000) (hml : (m : Int) ≤ 100000)
    (hx : EntAt w b1 (o1 + na * 3) ⟨xs, xp, xb⟩) (hy : EntAt w b2 (o2 + nb * 3) ⟨ys, yp, yb⟩)
    (CHA : Hid (∀ w', Calls Try.prog 49 #[.agg #[.int .i64 xs, .string xp, .string xb]] w' fun e w'' => e = .returned (.string ha) ∧ Below w'.heap.size w' w''))
    (CHB : Hid (∀ w', Calls Try.prog 49 #[.agg #[.int .i64 ys, .string yp, .string yb]] w' fun e w'' => e = .returned (.string ha) ∧ Below w'.heap.size w' w''))
    (HEA : Hid (EntsAt w (some ⟨b1, o1, none⟩) es)) (HEB : Hid (EntsAt w (some ⟨b2, o2, none⟩) fs)) (HOA : Hid (∀ e ∈ es, e.ok)) (HOB : Hid (∀ e ∈ fs, e.ok))
    (HRN : Hid (firstDiff es.reverse fs.reverse = none → RS = ByteArray.empty ∧ RT = ByteArray.empty ∧ RB = false))
    (HRY : Hid (∀ x y, firstDiff es.reverse fs.reverse = some (x, y) → RS = x.text ∧ RT = y.text ∧ RB = true)) :
    Calls Try.prog 39 #[.slice (some ⟨b1, o1, none⟩) n c1, .slice (some ⟨b2, o2, none⟩) m c2] w fun e w' => e = .returned (.tuple #[.string RS, .string RT, .bool RB]) ∧ Below w.heap.size w w' := by
  have hne : (ha.toList == ha.toList) = true := by simp
  have hne2 : (ha.toList != ha.toList) = false := by simp
  have HEN := Lib.hid hen
  have HFM := Lib.hid hfm
  obtain ⟨hx0, hx1, hx2⟩ := hx
  obtain ⟨hy0, hy1, hy2⟩ := hy
  simp only at hx0 hx1 hx2 hy0 hy1 hy2
  have hna0 : (0 : Int) ≤ (na : Int) := Int.natCast_nonneg _
  have hnb0 : (0 : Int) ≤ (nb : Int) := Int.natCast_nonneg _
  have qa : IntKind.i64.wrap (na : Int) = (na : Int) := IntWalk.i64_in _ ⟨by omega, by omega⟩
  have qb : IntKind.i64.wrap (nb : Int) = (nb : Int) := IntWalk.i64_in _ ⟨by omega, by omega⟩
  clear hen hfm
  go_enter Try.func39, Try.ntmps39
  go_upto_region 1 with fail
  refine wp_region_puts2 (R := fun qi w' v => v = [Value.slice (some ⟨b1, o1, none⟩) n c1, .int .i64 (n : Int), .bool false, .bool false, .slice (some ⟨b2, o2, none⟩) m c2, .int .i64 (m : Int), .bool false, .bool false, .bool false, .slice (some ⟨b1, o1, none⟩) n c1, .bool true, .bool false, .bool false, .bool false, .slice (some ⟨b2, o2, none⟩) m c2, .bool true, .bool false, .bool false, .bool false, .slice (some ⟨b1, o1, none⟩) n c1, .slice (some ⟨b1, o1, none⟩) n c1, .int .i64 (n : Int), .int .i64 (na : Int), .pointer (some ⟨b1, o1 + na * 3, none⟩), .agg #[.int .i64 xs, .string xp, .string xb], .string ha, .slice (some ⟨b2, o2, none⟩) m c2, .slice (some ⟨b2, o2, none⟩) m c2, .int .i64 (m : Int), .int .i64 (nb : Int), .pointer (some ⟨b2, o2 + nb * 3, none⟩), .agg #[.int .i64 ys, .string yp, .string yb], .string ha, .bool false, .bool false].getD qi undef)
    (by kernel_rfl) (by kernel_rfl) (by kernel_rfl) ?hRR (by kernel_rfl) (steps_of ?hs) ?hd
  case hRR =>
    intro qi w1 w2 v hb hv
    exact hv
  case hs =>
    refine ⟨?_, ?_, ?_, ?_, ?_, ?_, ?_, ?_, ?_, ?_, ?_, ?_, ?_, ?_, ?_, ?_, ?_, ?_, ?_, ?_, ?_, ?_, ?_, ?_, ?_, ?_, ?_, ?_, ?_, ?_, ?_, ?_, ?_, ?_, ?_, trivial⟩
    · refine stepOk_value rfl fun a w5 ht => ?_
      have e0 : a.tmps[0]?.getD undef = .slice (some ⟨b1, o1, none⟩) n c1 := ht.old' 0 (.slice (some ⟨b1, o1, none⟩) n c1) (by kernel_rfl) rfl
      exact ⟨Value.slice (some ⟨b1, o1, none⟩) n c1, w5, by go_simp, Below.refl _ _, rfl⟩
    · refine stepOk_value rfl fun a w5 ht => ?_
      have e10 : a.tmps[10]?.getD undef = Value.slice (some ⟨b1, o1, none⟩) n c1 := ht.dep' 0 10 (by kernel_rfl) rfl
      exact ⟨.int .i64 (n : Int), w5, by go_simp, Below.refl _ _, rfl⟩
    · refine stepOk_value rfl fun a w5 ht => ?_
      have e11 : a.tmps[11]?.getD undef = .int .i64 (n : Int) := ht.dep' 1 11 (by kernel_rfl) rfl
      exact ⟨.bool false, w5, by go_simp, Below.refl _ _, rfl⟩
    · refine stepOk_value rfl fun a w5 ht => ?_
      have e12 : a.tmps[12]?.getD undef = .bool false := ht.dep' 2 12 (by kernel_rfl) rfl
      exact ⟨.bool false, w5, by go_simp, Below.refl _ _, rfl⟩
    · refine stepOk_value_guarded 3 13 false rfl (by kernel_rfl) rfl (Nat.le_of_ble_eq_true rfl) (fun w v h => h) fun a w5 ht => ?_
      have e1 : a.tmps[1]?.getD undef = .slice (some ⟨b2, o2, none⟩) m c2 := ht.old' 1 (.slice (some ⟨b2, o2, none⟩) m c2) (by kernel_rfl) rfl
      exact ⟨.slice (some ⟨b2, o2, none⟩) m c2, w5, by go_simp, Below.refl _ _, rfl⟩
    · refine stepOk_value_guarded 3 13 false rfl (by kernel_rfl) rfl (Nat.le_of_ble_eq_true rfl) (fun w v h => h) fun a w5 ht => ?_
      have e14 : a.tmps[14]?.getD undef = .slice (some ⟨b2, o2, none⟩) m c2 := ht.dep' 4 14 (by kernel_rfl) rfl
      exact ⟨.int .i64 (m : Int), w5, by go_simp, Below.refl _ _, rfl⟩
    · refine stepOk_value_guarded 3 13 false rfl (by kernel_rfl) rfl (Nat.le_of_ble_eq_true rfl) (fun w v h => h) fun a w5 ht => ?_
      have e15 : a.tmps[15]?.getD undef = .int .i64 (m : Int) := ht.dep' 5 15 (by kernel_rfl) rfl
      exact ⟨.bool false, w5, by go_simp, Below.refl _ _, rfl⟩
    · refine stepOk_value rfl fun a w5 ht => ?_
      have e13 : a.tmps[13]?.getD undef = .bool false := ht.dep' 3 13 (by kernel_rfl) rfl
      have e16 : a.tmps[16]?.getD undef = .bool false := ht.dep' 6 16 (by kernel_rfl) rfl
      exact ⟨.bool false, w5, by go_simp, Below.refl _ _, rfl⟩
    · refine stepOk_value rfl fun a w5 ht => ?_
      have e17 : a.tmps[17]?.getD undef = .bool false := ht.dep' 7 17 (by kernel_rfl) rfl
      exact ⟨.bool false, w5, by go_simp, Below.refl _ _, rfl⟩
    · refine stepOk_value_guarded 8 18 false rfl (by kernel_rfl) rfl (Nat.le_of_ble_eq_true rfl) (fun w v h => h) fun a w5 ht => ?_
      have e0 : a.tmps[0]?.getD undef = .slice (some ⟨b1, o1, none⟩) n c1 := ht.old' 0 (.slice (some ⟨b1, o1, none⟩) n c1) (by kernel_rfl) rfl
      exact ⟨.slice (some ⟨b1, o1, none⟩) n c1, w5, by go_simp, Below.refl _ _, rfl⟩
    · refine stepOk_call_guarded 8 18 false rfl (by kernel_rfl) rfl (Nat.le_of_ble_eq_true rfl) (fun w v h => h) fun a w5 ht => ?_
      have e19 : a.tmps[19]?.getD undef = .slice (some ⟨b1, o1, none⟩) n c1 := ht.dep' 9 19 (by kernel_rfl) rfl
      refine ⟨70, #[.slice (some ⟨b1, o1, none⟩) n c1], by go_simp, (CGA.out w5 ht.below).mono ?_⟩
      rintro e w' ⟨rfl, hb⟩
      exact ⟨_, rfl, hb, rfl⟩
    · refine stepOk_value_guarded 8 18 false rfl (by kernel_rfl) rfl (Nat.le_of_ble_eq_true rfl) (fun w v h => h) fun a w5 ht => ?_
      have e20 : a.tmps[20]?.getD undef = .bool true := ht.dep' 10 20 (by kernel_rfl) rfl
      exact ⟨.bool false, w5, by go_simp, Below.refl _ _, rfl⟩
    · refine stepOk_value rfl fun a w5 ht => ?_
      have e18 : a.tmps[18]?.getD undef = .bool false := ht.dep' 8 18 (by kernel_rfl) rfl
      have e21 : a.tmps[21]?.getD undef = .bool false := ht.dep' 11 21 (by kernel_rfl) rfl
      exact ⟨.bool false, w5, by go_simp, Below.refl _ _, rfl⟩
    · refine stepOk_value rfl fun a w5 ht => ?_
      have e22 : a.tmps[22]?.getD undef = .bool false := ht.dep' 12 22 (by kernel_rfl) rfl
      exact ⟨.bool false, w5, by go_simp, Below.refl _ _, rfl⟩
    · refine stepOk_value_guarded 13 23 false rfl (by kernel_rfl) rfl (Nat.le_of_ble_eq_true rfl) (fun w v h => h) fun a w5 ht => ?_
      have e1 : a.tmps[1]?.getD undef = .slice (some ⟨b2, o2, none⟩) m c2 := ht.old' 1 (.slice (some ⟨b2, o2, none⟩) m c2) (by kernel_rfl) rfl
      exact ⟨.slice (some ⟨b2, o2, none⟩) m c2, w5, by go_simp, Below.refl _ _, rfl⟩
    · refine stepOk_call_guarded 13 23 false rfl (by kernel_rfl) rfl (Nat.le_of_ble_eq_true rfl) (fun w v h => h) fun a w5 ht => ?_
      have e24 : a.tmps[24]?.getD undef = .slice (some ⟨b2, o2, none⟩) m c2 := ht.dep' 14 24 (by kernel_rfl) rfl
      refine ⟨70, #[.slice (some ⟨b2, o2, none⟩) m c2], by go_simp, (CGB.out w5 ht.below).mono ?_⟩
      rintro e w' ⟨rfl, hb⟩
      exact ⟨_, rfl, hb, rfl⟩
    · refine stepOk_value_guarded 13 23 false rfl (by kernel_rfl) rfl (Nat.le_of_ble_eq_true rfl) (fun w v h => h) fun a w5 ht => ?_
      have e25 : a.tmps[25]?.getD undef = .bool true := ht.dep' 15 25 (by kernel_rfl) rfl
      exact ⟨.bool false, w5, by go_simp, Below.refl _ _, rfl⟩
    · refine stepOk_value rfl fun a w5 ht => ?_
      have e23 : a.tmps[23]?.getD undef = .bool false := ht.dep' 13 23 (by kernel_rfl) rfl
      have e26 : a.tmps[26]?.getD undef = .bool false := ht.dep' 16 26 (by kernel_rfl) rfl
      exact ⟨.bool false, w5, by go_simp, Below.refl _ _, rfl⟩
    · refine stepOk_value rfl fun a w5 ht => ?_
      have e27 : a.tmps[27]?.getD undef = .bool false := ht.dep' 17 27 (by kernel_rfl) rfl
      exact ⟨.bool false, w5, by go_simp, Below.refl _ _, rfl⟩
    · refine stepOk_value_guarded 18 28 false rfl (by kernel_rfl) rfl (Nat.le_of_ble_eq_true rfl) (fun w v h => h) fun a w5 ht => ?_
      have e0 : a.tmps[0]?.getD undef = .slice (some ⟨b1, o1, none⟩) n c1 := ht.old' 0 (.slice (some ⟨b1, o1, none⟩) n c1) (by kernel_rfl) rfl
      exact ⟨.slice (some ⟨b1, o1, none⟩) n c1, w5, by go_simp, Below.refl _ _, rfl⟩
    · refine stepOk_value_guarded 18 28 false rfl (by kernel_rfl) rfl (Nat.le_of_ble_eq_true rfl) (fun w v h => h) fun a w5 ht => ?_
      have e0 : a.tmps[0]?.getD undef = .slice (some ⟨b1, o1, none⟩) n c1 := ht.old' 0 (.slice (some ⟨b1, o1, none⟩) n c1) (by kernel_rfl) rfl
      exact ⟨.slice (some ⟨b1, o1, none⟩) n c1, w5, by go_simp, Below.refl _ _, rfl⟩
    · refine stepOk_value_guarded 18 28 false rfl (by kernel_rfl) rfl (Nat.le_of_ble_eq_true rfl) (fun w v h => h) fun a w5 ht => ?_
      have e30 : a.tmps[30]?.getD undef = .slice (some ⟨b1, o1, none⟩) n c1 := ht.dep' 20 30 (by kernel_rfl) rfl
      exact ⟨.int .i64 (n : Int), w5, by go_simp, Below.refl _ _, rfl⟩
    · refine stepOk_value_guarded 18 28 false rfl (by kernel_rfl) rfl (Nat.le_of_ble_eq_true rfl) (fun w v h => h) fun a w5 ht => ?_
      have e31 : a.tmps[31]?.getD undef = .int .i64 (n : Int) := ht.dep' 21 31 (by kernel_rfl) rfl
      exact ⟨.int .i64 (na : Int), w5, by go_simp, Below.refl _ _, rfl⟩
    · refine stepOk_value_guarded 18 28 false rfl (by kernel_rfl) rfl (Nat.le_of_ble_eq_true rfl) (fun w v h => h) fun a w5 ht => ?_
      have e29 : a.tmps[29]?.getD undef = .slice (some ⟨b1, o1, none⟩) n c1 := ht.dep' 19 29 (by kernel_rfl) rfl
      have e32 : a.tmps[32]?.getD undef = .int .i64 (na : Int) := ht.dep' 22 32 (by kernel_rfl) rfl
      exact ⟨.pointer (some ⟨b1, o1 + na * 3, none⟩), w5, by go_simp, Below.refl _ _, rfl⟩
    · refine stepOk_value_guarded 18 28 false rfl (by kernel_rfl) rfl (Nat.le_of_ble_eq_true rfl) (fun w v h => h) fun a w5 ht => ?_
      have e33 : a.tmps[33]?.getD undef = .pointer (some ⟨b1, o1 + na * 3, none⟩) := ht.dep' 23 33 (by kernel_rfl) rfl
      have hc0 := (ht.below.cell (p := ⟨b1, o1 + na * 3, none⟩) (World.block_lt_of_cell? _ _ hx0)).trans hx0
      have hc1 := (ht.below.cell (p := ⟨b1, o1 + na * 3 + 1, none⟩) (World.block_lt_of_cell? _ _ hx1)).trans hx1
      have hc2 := (ht.below.cell (p := ⟨b1, o1 + na * 3 + 2, none⟩) (World.block_lt_of_cell? _ _ hx2)).trans hx2
      exact ⟨.agg #[.int .i64 xs, .string xp, .string xb], w5, by go_simp, Below.refl _ _, rfl⟩
    · refine stepOk_call_guarded 18 28 false rfl (by kernel_rfl) rfl (Nat.le_of_ble_eq_true rfl) (fun w v h => h) fun a w5 ht => ?_
      have e34 : a.tmps[34]?.getD undef = .agg #[.int .i64 xs, .string xp, .string xb] := ht.dep' 24 34 (by kernel_rfl) rfl
      refine ⟨49, #[.agg #[.int .i64 xs, .string xp, .string xb]], by go_simp, (CHA.out w5).mono ?_⟩
      rintro e w' ⟨rfl, hb⟩
      exact ⟨_, rfl, hb, rfl⟩
    · refine stepOk_value_guarded 18 28 false rfl (by kernel_rfl) rfl (Nat.le_of_ble_eq_true rfl) (fun w v h => h) fun a w5 ht => ?_
      have e1 : a.tmps[1]?.getD undef = .slice (some ⟨b2, o2, none⟩) m c2 := ht.old' 1 (.slice (some ⟨b2, o2, none⟩) m c2) (by kernel_rfl) rfl
      exact ⟨.slice (some ⟨b2, o2, none⟩) m c2, w5, by go_simp, Below.refl _ _, rfl⟩
    · refine stepOk_value_guarded 18 28 false rfl (by kernel_rfl) rfl (Nat.le_of_ble_eq_true rfl) (fun w v h => h) fun a w5 ht => ?_
      have e1 : a.tmps[1]?.getD undef = .slice (some ⟨b2, o2, none⟩) m c2 := ht.old' 1 (.slice (some ⟨b2, o2, none⟩) m c2) (by kernel_rfl) rfl
      exact ⟨.slice (some ⟨b2, o2, none⟩) m c2, w5, by go_simp, Below.refl _ _, rfl⟩
    · refine stepOk_value_guarded 18 28 false rfl (by kernel_rfl) rfl (Nat.le_of_ble_eq_true rfl) (fun w v h => h) fun a w5 ht => ?_
      have e37 : a.tmps[37]?.getD undef = .slice (some ⟨b2, o2, none⟩) m c2 := ht.dep' 27 37 (by kernel_rfl) rfl
      exact ⟨.int .i64 (m : Int), w5, by go_simp, Below.refl _ _, rfl⟩
    · refine stepOk_value_guarded 18 28 false rfl (by kernel_rfl) rfl (Nat.le_of_ble_eq_true rfl) (fun w v h => h) fun a w5 ht => ?_
      have e38 : a.tmps[38]?.getD undef = .int .i64 (m : Int) := ht.dep' 28 38 (by kernel_rfl) rfl
      exact ⟨.int .i64 (nb : Int), w5, by go_simp, Below.refl _ _, rfl⟩
    · refine stepOk_value_guarded 18 28 false rfl (by kernel_rfl) rfl (Nat.le_of_ble_eq_true rfl) (fun w v h => h) fun a w5 ht => ?_
      have e36 : a.tmps[36]?.getD undef = .slice (some ⟨b2, o2, none⟩) m c2 := ht.dep' 26 36 (by kernel_rfl) rfl
      have e39 : a.tmps[39]?.getD undef = .int .i64 (nb : Int) := ht.dep' 29 39 (by kernel_rfl) rfl
      exact ⟨.pointer (some ⟨b2, o2 + nb * 3, none⟩), w5, by go_simp, Below.refl _ _, rfl⟩
    · refine stepOk_value_guarded 18 28 false rfl (by kernel_rfl) rfl (Nat.le_of_ble_eq_true rfl) (fun w v h => h) fun a w5 ht => ?_
      have e40 : a.tmps[40]?.getD undef = .pointer (some ⟨b2, o2 + nb * 3, none⟩) := ht.dep' 30 40 (by kernel_rfl) rfl
      have hc0 := (ht.below.cell (p := ⟨b2, o2 + nb * 3, none⟩) (World.block_lt_of_cell? _ _ hy0)).trans hy0
      have hc1 := (ht.below.cell (p := ⟨b2, o2 + nb * 3 + 1, none⟩) (World.block_lt_of_cell? _ _ hy1)).trans hy1
      have hc2 := (ht.below.cell (p := ⟨b2, o2 + nb * 3 + 2, none⟩) (World.block_lt_of_cell? _ _ hy2)).trans hy2
      exact ⟨.agg #[.int .i64 ys, .string yp, .string yb], w5, by go_simp, Below.refl _ _, rfl⟩
    · refine stepOk_call_guarded 18 28 false rfl (by kernel_rfl) rfl (Nat.le_of_ble_eq_true rfl) (fun w v h => h) fun a w5 ht => ?_
      have e41 : a.tmps[41]?.getD undef = .agg #[.int .i64 ys, .string yp, .string yb] := ht.dep' 31 41 (by kernel_rfl) rfl
      refine ⟨49, #[.agg #[.int .i64 ys, .string yp, .string yb]], by go_simp, (CHB.out w5).mono ?_⟩
      rintro e w' ⟨rfl, hb⟩
      exact ⟨_, rfl, hb, rfl⟩
    · refine stepOk_value_guarded 18 28 false rfl (by kernel_rfl) rfl (Nat.le_of_ble_eq_true rfl) (fun w v h => h) fun a w5 ht => ?_
      have e35 : a.tmps[35]?.getD undef = .string ha := ht.dep' 25 35 (by kernel_rfl) rfl
      have e42 : a.tmps[42]?.getD undef = .string ha := ht.dep' 32 42 (by kernel_rfl) rfl
      exact ⟨.bool false, w5, by go_simp, Below.refl _ _, rfl⟩
    · refine stepOk_value rfl fun a w5 ht => ?_
      have e28 : a.tmps[28]?.getD undef = .bool false := ht.dep' 18 28 (by kernel_rfl) rfl
      have e43 : a.tmps[43]?.getD undef = .bool false := ht.dep' 33 43 (by kernel_rfl) rfl
      exact ⟨.bool false, w5, by go_simp, Below.refl _ _, rfl⟩
  case hd =>
    intro vs w8 hl hb8 hvs
    have hl : vs.length = 35 := hl
    obtain ⟨v0, r0, rfl, l0⟩ := uncons vs hl
    obtain ⟨v1, r1, rfl, l1⟩ := uncons r0 l0
    obtain ⟨v2, r2, rfl, l2⟩ := uncons r1 l1
    obtain ⟨v3, r3, rfl, l3⟩ := uncons r2 l2
    obtain ⟨v4, r4, rfl, l4⟩ := uncons r3 l3
    obtain ⟨v5, r5, rfl, l5⟩ := uncons r4 l4
    obtain ⟨v6, r6, rfl, l6⟩ := uncons r5 l5
    obtain ⟨v7, r7, rfl, l7⟩ := uncons r6 l6
    obtain ⟨v8, r8, rfl, l8⟩ := uncons r7 l7
    obtain ⟨v9, r9, rfl, l9⟩ := uncons r8 l8
    obtain ⟨v10, r10, rfl, l10⟩ := uncons r9 l9
    obtain ⟨v11, r11, rfl, l11⟩ := uncons r10 l10
    obtain ⟨v12, r12, rfl, l12⟩ := uncons r11 l11
    obtain ⟨v13, r13, rfl, l13⟩ := uncons r12 l12
    obtain ⟨v14, r14, rfl, l14⟩ := uncons r13 l13
    obtain ⟨v15, r15, rfl, l15⟩ := uncons r14 l14
    obtain ⟨v16, r16, rfl, l16⟩ := uncons r15 l15
    obtain ⟨v17, r17, rfl, l17⟩ := uncons r16 l16
    obtain ⟨v18, r18, rfl, l18⟩ := uncons r17 l17
    obtain ⟨v19, r19, rfl, l19⟩ := uncons r18 l18
    obtain ⟨v20, r20, rfl, l20⟩ := uncons r19 l19
    obtain ⟨v21, r21, rfl, l21⟩ := uncons r20 l20
    obtain ⟨v22, r22, rfl, l22⟩ := uncons r21 l21
    obtain ⟨v23, r23, rfl, l23⟩ := uncons r22 l22
    obtain ⟨v24, r24, rfl, l24⟩ := uncons r23 l23
    obtain ⟨v25, r25, rfl, l25⟩ := uncons r24 l24
    obtain ⟨v26, r26, rfl, l26⟩ := uncons r25 l25
    obtain ⟨v27, r27, rfl, l27⟩ := uncons r26 l26
    obtain ⟨v28, r28, rfl, l28⟩ := uncons r27 l27
    obtain ⟨v29, r29, rfl, l29⟩ := uncons r28 l28
    obtain ⟨v30, r30, rfl, l30⟩ := uncons r29 l29
    obtain ⟨v31, r31, rfl, l31⟩ := uncons r30 l30
    obtain ⟨v32, r32, rfl, l32⟩ := uncons r31 l31
    obtain ⟨v33, r33, rfl, l33⟩ := uncons r32 l32
    obtain ⟨v34, r34, rfl, l34⟩ := uncons r33 l33
    obtain rfl := List.eq_nil_of_length_eq_zero l34
    have h34 : v34 = .bool false := hvs 34 (by decide)
    subst h34
    clear hvs
    simp only [puts, List.map, go_sem, List.setIfInBounds_toArray, List.set_cons_succ, List.set_cons_zero]
    have HB8 := Lib.hid hb8
    clear hb8 hx0 hx1 hx2 hy0 hy1 hy2 hna hnb hnal hnbl hna0 hnb0 qa qb hne hne2 CGA CGB CHA CHB
    go_wp2_with fail
    go_loopw [7] (fun i wr => ∃ k : Nat, (k : Int) ≤ (n : Int) ∧ (k : Int) ≤ (m : Int) ∧ i = .int .i64 ((k : Int) + 1) ∧ Hid (firstDiff es.reverse fs.reverse = firstDiff (es.reverse.drop k) (fs.reverse.drop k)) ∧ Hid (Below w.heap.size w wr)) (fun i _ => n + 1 - (intOf i).toNat)
    case atStart => exact ⟨0, by omega, by omega, rfl, rfl, HB8⟩
    case round =>
      clear HB8
      obtain ⟨k, hkn, hkm, rfl, HFD, HBE⟩ := hrel
      have hk0 : (0 : Int) ≤ (k : Int) := Int.natCast_nonneg _
      by_cases hlt : (k : Int) < (n : Int) ∧ (k : Int) < (m : Int)
      · obtain ⟨hl1, hl2⟩ := hlt
        obtain ⟨ja, hja⟩ : ∃ ja : Nat, (n : Int) - ((k : Int) + 1) = (ja : Int) := ⟨n - 1 - k, by omega⟩
        obtain ⟨jb, hjb⟩ : ∃ jb : Nat, (m : Int) - ((k : Int) + 1) = (jb : Int) := ⟨m - 1 - k, by omega⟩
        have hjal : (ja : Int) < (n : Int) := by omega
        have hjbl : (jb : Int) < (m : Int) := by omega
        have hja0 : (0 : Int) ≤ (ja : Int) := Int.natCast_nonneg _
        have hjb0 : (0 : Int) ≤ (jb : Int) := Int.natCast_nonneg _
        have HST := Lib.hid (firstDiff_step es fs k (by rw [← HEN.out]; omega) (by rw [← HFM.out]; omega))
        rw [← HEN.out, ← HFM.out, show n - 1 - k = ja by omega, show m - 1 - k = jb by omega] at HST
        obtain ⟨_, _, hq1, hw1, hce1⟩ := HEA.out ja (by rw [← HEN.out]; omega)
        cases hq1
        obtain ⟨_, _, hq2, hw2, hce2⟩ := HEB.out jb (by rw [← HFM.out]; omega)
        cases hq2
        have hce1 := hce1.kept HBE.out hw1
        have hce2 := hce2.kept HBE.out hw2
        have hqa : IntKind.i64.wrap (ja : Int) = (ja : Int) := IntWalk.i64_in _ ⟨by omega, by omega⟩
        have hqb : IntKind.i64.wrap (jb : Int) = (jb : Int) := IntWalk.i64_in _ ⟨by omega, by omega⟩
        have HO1 := Lib.hid (HOA.out (es.getD ja Ent0) (by rw [show es.getD ja Ent0 = es[ja]'(by rw [← HEN.out]; omega) by rw [List.getD_eq_getElem?_getD, List.getElem?_eq_getElem]; rfl]; exact List.getElem_mem _))
        have HO2 := Lib.hid (HOB.out (fs.getD jb Ent0) (by rw [show fs.getD jb Ent0 = fs[jb]'(by rw [← HFM.out]; omega) by rw [List.getD_eq_getElem?_getD, List.getElem?_eq_getElem]; rfl]; exact List.getElem_mem _))
        generalize es.getD ja Ent0 = x at *
        generalize fs.getD jb Ent0 = y at *
        have heq := equal_ent x y
        have hgd := guard_ent
        have CTX := Lib.hid (fun w => feedText_any x HO1.out w)
        have CTY := Lib.hid (fun w => feedText_any y HO2.out w)
        have hw1 := Nat.lt_of_lt_of_le hw1 HBE.out.size
        have hw2 := Nat.lt_of_lt_of_le hw2 HBE.out.size
        have hw3 : ¬ b1 = wr.heap.size := by omega
        have hw4 : ¬ b2 = wr.heap.size := by omega
        have hw5 : ¬ b1 = wr.heap.size + 1 := by omega
        have hw6 : ¬ b2 = wr.heap.size + 1 := by omega
        obtain ⟨us, up, ub⟩ := x
        obtain ⟨vs, vp, vb⟩ := y
        obtain ⟨hx0, hx1, hx2⟩ := hce1
        obtain ⟨hy0, hy1, hy2⟩ := hce2
        unfold Fd.Ent.val at heq CTX CTY
        simp only at hx0 hx1 hx2 hy0 hy1 hy2 heq CTX CTY
        go_upto_region 6 with fail
        have hB1 : ∀ o1' o2' : Obj, Below wr.heap.size wr ((wr.alloc o1').alloc o2').drew := fun o1' o2' => (((Below.refl wr.heap.size wr).alloc (Nat.le_refl _) o1').alloc (by simp) o2').drew
        have hE1 : ∀ (e : Fd.Ent) (o2' : Obj), EntAt ((wr.alloc (.cells #[.int .i64 e.seq, .string e.prev, .string e.body] 82)).alloc o2').drew wr.heap.size 0 e := fun e o2' => by
          have h : EntAt (wr.alloc (.cells #[.int .i64 e.seq, .string e.prev, .string e.body] 82)) wr.heap.size 0 e := ⟨cells_new wr [.int .i64 e.seq, .string e.prev, .string e.body] _ 0 _ rfl, cells_new wr [.int .i64 e.seq, .string e.prev, .string e.body] _ 1 _ rfl, cells_new wr [.int .i64 e.seq, .string e.prev, .string e.body] _ 2 _ rfl⟩
          exact h.kept ((((Below.refl (wr.alloc (.cells #[.int .i64 e.seq, .string e.prev, .string e.body] 82)).heap.size _).alloc (Nat.le_refl _) o2')).drew) (by simp)
        have hE2 : ∀ (e : Fd.Ent) (o1' : Obj), EntAt ((wr.alloc o1').alloc (.cells #[.int .i64 e.seq, .string e.prev, .string e.body] 82)).drew (wr.heap.size + 1) 0 e := fun e o1' => by
          have hs : (wr.alloc o1').heap.size = wr.heap.size + 1 := by simp
          have h : EntAt ((wr.alloc o1').alloc (.cells #[.int .i64 e.seq, .string e.prev, .string e.body] 82)) (wr.alloc o1').heap.size 0 e := ⟨cells_new _ [.int .i64 e.seq, .string e.prev, .string e.body] _ 0 _ rfl, cells_new _ [.int .i64 e.seq, .string e.prev, .string e.body] _ 1 _ rfl, cells_new _ [.int .i64 e.seq, .string e.prev, .string e.body] _ 2 _ rfl⟩
          rw [hs] at h
          exact h
        have HB1 := Lib.hid hB1
        have HE1 := Lib.hid hE1
        have HE2 := Lib.hid hE2
        clear hB1 hE1 hE2
        generalize htx : Fd.Ent.text ⟨us, up, ub⟩ = tx at CTX
        generalize hty : Fd.Ent.text ⟨vs, vp, vb⟩ = ty at CTY
        have HTX := Lib.hid htx
        have HTY := Lib.hid hty
        clear htx hty
        go_region
        have hfx := HE1.out ⟨us, up, ub⟩ (.cells #[.int .i64 vs, .string vp, .string vb] 82)
        have hfy := HE2.out ⟨vs, vp, vb⟩ (.cells #[.int .i64 us, .string up, .string ub] 82)
        have hbb := HB1.out (.cells #[.int .i64 us, .string up, .string ub] 82) (.cells #[.int .i64 vs, .string vp, .string vb] 82)
        have HW6 : Hid (Below w.heap.size w _) := HBE.out.trans (hbb.mono HBE.out.size)
        clear HB1 HE1 HE2 hbb hw1 hw2 hw3 hw4 hw5 hw6 hx0 hx1 hx2 hy0 hy1 hy2 HBE
        simp only at hfx hfy
        generalize World.drew _ = w6 at *
        generalize wr.heap.size + 1 = Y at *
        generalize wr.heap.size = X at *
        rotate_left
        have hfx := HE2.out ⟨us, up, ub⟩ (.cells #[.int .i64 vs, .string vp, .string vb] 82)
        have hfy := HE1.out ⟨vs, vp, vb⟩ (.cells #[.int .i64 us, .string up, .string ub] 82)
        have hbb := HB1.out (.cells #[.int .i64 vs, .string vp, .string vb] 82) (.cells #[.int .i64 us, .string up, .string ub] 82)
        have HW6 : Hid (Below w.heap.size w _) := HBE.out.trans (hbb.mono HBE.out.size)
        clear HB1 HE1 HE2 hbb hw1 hw2 hw3 hw4 hw5 hw6 hx0 hx1 hx2 hy0 hy1 hy2 HBE
        simp only at hfx hfy
        generalize World.drew _ = w6 at *
        generalize wr.heap.size + 1 = X at *
        generalize wr.heap.size = Y at *
        rotate_left
        all_goals
          obtain ⟨hz0, hz1, hz2⟩ := hfx
          obtain ⟨hu0, hu1, hu2⟩ := hfy
          simp only at hz0 hz1 hz2 hu0 hu1 hu2
        all_goals by_cases hxy : (⟨us, up, ub⟩ : Fd.Ent) = ⟨vs, vp, vb⟩
        case pos =>
          rw [decide_eq_true hxy] at heq
          have HST2 : Hid (firstDiff es.reverse fs.reverse = firstDiff (es.reverse.drop (k + 1)) (fs.reverse.drop (k + 1))) := by show _ = _; rw [HFD.out, HST.out, if_pos hxy]
          clear hxy
          go_wp2_with fail
          go_roundw
          case rel => exact ⟨k + 1, by omega, by omega, by go_num, HST2, HW6⟩
          case measure => simp [intOf]; omega
        case neg =>
          rw [decide_eq_false hxy] at heq
          have HST2 : Hid (RS = tx ∧ RT = ty ∧ RB = true) := by
            have h := HRY.out _ _ ((HFD.out.trans HST.out).trans (if_neg hxy))
            rw [HTX.out, HTY.out] at h
            exact h
          obtain ⟨rfl, rfl, rfl⟩ := HST2.out
          clear hxy HST2
          go_wp2_with fail
          refine wp_region_puts2 (R := fun qi w' v => v = [Value.agg #[.int .i64 us, .string up, .string ub], .string RS, .agg #[.int .i64 vs, .string vp, .string vb], .string RT, .string RS, .string RT, .bool true].getD qi undef)
            (by kernel_rfl) (by kernel_rfl) (by kernel_rfl) ?hRR (by kernel_rfl) (steps_of ?hs) ?hd
          case hRR =>
            intro qi w1 w2 v hb hv
            exact hv
          case hs =>
            refine ⟨?_, ?_, ?_, ?_, ?_, ?_, ?_, trivial⟩
            · refine stepOk_value rfl fun a w5 ht => ?_
              have e8 : a.tmps[8]?.getD undef = .pointer (some ⟨X, 0, none⟩) := ht.old' 8 (.pointer (some ⟨X, 0, none⟩)) (by kernel_rfl) rfl
              have hc0 := (ht.below.cell (p := ⟨X, 0, none⟩) (World.block_lt_of_cell? _ _ hz0)).trans hz0
              have hc1 := (ht.below.cell (p := ⟨X, 1, none⟩) (World.block_lt_of_cell? _ _ hz1)).trans hz1
              have hc2 := (ht.below.cell (p := ⟨X, 2, none⟩) (World.block_lt_of_cell? _ _ hz2)).trans hz2
              exact ⟨Value.agg #[.int .i64 us, .string up, .string ub], w5, by go_simp, Below.refl _ _, rfl⟩
            · refine stepOk_call rfl fun a w5 ht => ?_
              have e71 : a.tmps[71]?.getD undef = Value.agg #[.int .i64 us, .string up, .string ub] := ht.dep' 0 71 (by kernel_rfl) rfl
              refine ⟨71, #[.agg #[.int .i64 us, .string up, .string ub]], by go_simp, (CTX.out w5).mono ?_⟩
              rintro e w' ⟨rfl, hb⟩
              exact ⟨_, rfl, hb, rfl⟩
            · refine stepOk_value rfl fun a w5 ht => ?_
              have e9 : a.tmps[9]?.getD undef = .pointer (some ⟨Y, 0, none⟩) := ht.old' 9 (.pointer (some ⟨Y, 0, none⟩)) (by kernel_rfl) rfl
              have hc0 := (ht.below.cell (p := ⟨Y, 0, none⟩) (World.block_lt_of_cell? _ _ hu0)).trans hu0
              have hc1 := (ht.below.cell (p := ⟨Y, 1, none⟩) (World.block_lt_of_cell? _ _ hu1)).trans hu1
              have hc2 := (ht.below.cell (p := ⟨Y, 2, none⟩) (World.block_lt_of_cell? _ _ hu2)).trans hu2
              exact ⟨.agg #[.int .i64 vs, .string vp, .string vb], w5, by go_simp, Below.refl _ _, rfl⟩
            · refine stepOk_call rfl fun a w5 ht => ?_
              have e73 : a.tmps[73]?.getD undef = .agg #[.int .i64 vs, .string vp, .string vb] := ht.dep' 2 73 (by kernel_rfl) rfl
              refine ⟨71, #[.agg #[.int .i64 vs, .string vp, .string vb]], by go_simp, (CTY.out w5).mono ?_⟩
              rintro e w' ⟨rfl, hb⟩
              exact ⟨_, rfl, hb, rfl⟩
            · refine stepOk_value rfl fun a w5 ht => ?_
              have e72 : a.tmps[72]?.getD undef = .string RS := ht.dep' 1 72 (by kernel_rfl) rfl
              exact ⟨.string RS, w5, by go_simp, Below.refl _ _, rfl⟩
            · refine stepOk_value rfl fun a w5 ht => ?_
              have e74 : a.tmps[74]?.getD undef = .string RT := ht.dep' 3 74 (by kernel_rfl) rfl
              exact ⟨.string RT, w5, by go_simp, Below.refl _ _, rfl⟩
            · refine stepOk_value rfl fun a w5 ht => ?_
              exact ⟨.bool true, w5, by go_simp, Below.refl _ _, rfl⟩
          case hd =>
            intro vs w8 hl hb8 hvs
            have hl : vs.length = 7 := hl
            obtain ⟨v0, r0, rfl, l0⟩ := uncons vs hl
            obtain ⟨v1, r1, rfl, l1⟩ := uncons r0 l0
            obtain ⟨v2, r2, rfl, l2⟩ := uncons r1 l1
            obtain ⟨v3, r3, rfl, l3⟩ := uncons r2 l2
            obtain ⟨v4, r4, rfl, l4⟩ := uncons r3 l3
            obtain ⟨v5, r5, rfl, l5⟩ := uncons r4 l4
            obtain ⟨v6, r6, rfl, l6⟩ := uncons r5 l5
            obtain rfl := List.eq_nil_of_length_eq_zero l6
            have h4 : v4 = .string RS := hvs 4 (by decide)
            subst h4
            have h5 : v5 = .string RT := hvs 5 (by decide)
            subst h5
            have h6 : v6 = .bool true := hvs 6 (by decide)
            subst h6
            clear hvs
            simp only [puts, List.map, go_sem, List.setIfInBounds_toArray, List.set_cons_succ, List.set_cons_zero]
            have HW8 : Hid (Below w.heap.size w w8) := HW6.out.trans (hb8.mono HW6.out.size)
            clear hb8 HW6 hz0 hz1 hz2 hu0 hu1 hu2 heq hgd CTX CTY
            go_wp2_with fail
            go_ret3
            exact ⟨rfl, HW8.out⟩
        case pos =>
          rw [decide_eq_true hxy] at heq
          have HST2 : Hid (firstDiff es.reverse fs.reverse = firstDiff (es.reverse.drop (k + 1)) (fs.reverse.drop (k + 1))) := by show _ = _; rw [HFD.out, HST.out, if_pos hxy]
          clear hxy
          go_wp2_with fail
          go_roundw
          case rel => exact ⟨k + 1, by omega, by omega, by go_num, HST2, HW6⟩
          case measure => simp [intOf]; omega
        case neg =>
          rw [decide_eq_false hxy] at heq
          have HST2 : Hid (RS = tx ∧ RT = ty ∧ RB = true) := by
            have h := HRY.out _ _ ((HFD.out.trans HST.out).trans (if_neg hxy))
            rw [HTX.out, HTY.out] at h
            exact h
          obtain ⟨rfl, rfl, rfl⟩ := HST2.out
          clear hxy HST2
          go_wp2_with fail
          refine wp_region_puts2 (R := fun qi w' v => v = [Value.agg #[.int .i64 us, .string up, .string ub], .string RS, .agg #[.int .i64 vs, .string vp, .string vb], .string RT, .string RS, .string RT, .bool true].getD qi undef)
            (by kernel_rfl) (by kernel_rfl) (by kernel_rfl) ?hRR (by kernel_rfl) (steps_of ?hs) ?hd
          case hRR =>
            intro qi w1 w2 v hb hv
            exact hv
          case hs =>
            refine ⟨?_, ?_, ?_, ?_, ?_, ?_, ?_, trivial⟩
            · refine stepOk_value rfl fun a w5 ht => ?_
              have e8 : a.tmps[8]?.getD undef = .pointer (some ⟨X, 0, none⟩) := ht.old' 8 (.pointer (some ⟨X, 0, none⟩)) (by kernel_rfl) rfl
              have hc0 := (ht.below.cell (p := ⟨X, 0, none⟩) (World.block_lt_of_cell? _ _ hz0)).trans hz0
              have hc1 := (ht.below.cell (p := ⟨X, 1, none⟩) (World.block_lt_of_cell? _ _ hz1)).trans hz1
              have hc2 := (ht.below.cell (p := ⟨X, 2, none⟩) (World.block_lt_of_cell? _ _ hz2)).trans hz2
              exact ⟨Value.agg #[.int .i64 us, .string up, .string ub], w5, by go_simp, Below.refl _ _, rfl⟩
            · refine stepOk_call rfl fun a w5 ht => ?_
              have e71 : a.tmps[71]?.getD undef = Value.agg #[.int .i64 us, .string up, .string ub] := ht.dep' 0 71 (by kernel_rfl) rfl
              refine ⟨71, #[.agg #[.int .i64 us, .string up, .string ub]], by go_simp, (CTX.out w5).mono ?_⟩
              rintro e w' ⟨rfl, hb⟩
              exact ⟨_, rfl, hb, rfl⟩
            · refine stepOk_value rfl fun a w5 ht => ?_
              have e9 : a.tmps[9]?.getD undef = .pointer (some ⟨Y, 0, none⟩) := ht.old' 9 (.pointer (some ⟨Y, 0, none⟩)) (by kernel_rfl) rfl
              have hc0 := (ht.below.cell (p := ⟨Y, 0, none⟩) (World.block_lt_of_cell? _ _ hu0)).trans hu0
              have hc1 := (ht.below.cell (p := ⟨Y, 1, none⟩) (World.block_lt_of_cell? _ _ hu1)).trans hu1
              have hc2 := (ht.below.cell (p := ⟨Y, 2, none⟩) (World.block_lt_of_cell? _ _ hu2)).trans hu2
              exact ⟨.agg #[.int .i64 vs, .string vp, .string vb], w5, by go_simp, Below.refl _ _, rfl⟩
            · refine stepOk_call rfl fun a w5 ht => ?_
              have e73 : a.tmps[73]?.getD undef = .agg #[.int .i64 vs, .string vp, .string vb] := ht.dep' 2 73 (by kernel_rfl) rfl
              refine ⟨71, #[.agg #[.int .i64 vs, .string vp, .string vb]], by go_simp, (CTY.out w5).mono ?_⟩
              rintro e w' ⟨rfl, hb⟩
              exact ⟨_, rfl, hb, rfl⟩
            · refine stepOk_value rfl fun a w5 ht => ?_
              have e72 : a.tmps[72]?.getD undef = .string RS := ht.dep' 1 72 (by kernel_rfl) rfl
              exact ⟨.string RS, w5, by go_simp, Below.refl _ _, rfl⟩
            · refine stepOk_value rfl fun a w5 ht => ?_
              have e74 : a.tmps[74]?.getD undef = .string RT := ht.dep' 3 74 (by kernel_rfl) rfl
              exact ⟨.string RT, w5, by go_simp, Below.refl _ _, rfl⟩
            · refine stepOk_value rfl fun a w5 ht => ?_
              exact ⟨.bool true, w5, by go_simp, Below.refl _ _, rfl⟩
          case hd =>
            intro vs w8 hl hb8 hvs
            have hl : vs.length = 7 := hl
            obtain ⟨v0, r0, rfl, l0⟩ := uncons vs hl
            obtain ⟨v1, r1, rfl, l1⟩ := uncons r0 l0
            obtain ⟨v2, r2, rfl, l2⟩ := uncons r1 l1
            obtain ⟨v3, r3, rfl, l3⟩ := uncons r2 l2
            obtain ⟨v4, r4, rfl, l4⟩ := uncons r3 l3
            obtain ⟨v5, r5, rfl, l5⟩ := uncons r4 l4
            obtain ⟨v6, r6, rfl, l6⟩ := uncons r5 l5
            obtain rfl := List.eq_nil_of_length_eq_zero l6
            have h4 : v4 = .string RS := hvs 4 (by decide)
            subst h4
            have h5 : v5 = .string RT := hvs 5 (by decide)
            subst h5
            have h6 : v6 = .bool true := hvs 6 (by decide)
            subst h6
            clear hvs
            simp only [puts, List.map, go_sem, List.setIfInBounds_toArray, List.set_cons_succ, List.set_cons_zero]
            have HW8 : Hid (Below w.heap.size w w8) := HW6.out.trans (hb8.mono HW6.out.size)
            clear hb8 HW6 hz0 hz1 hz2 hu0 hu1 hu2 heq hgd CTX CTY
            go_wp2_with fail
            go_ret3
            exact ⟨rfl, HW8.out⟩
      · have HNN : Hid (RS = ByteArray.empty ∧ RT = ByteArray.empty ∧ RB = false) := HRN.out (HFD.out.trans (firstDiff_out es fs k (by rw [← HEN.out, ← HFM.out]; omega)))
        obtain ⟨rfl, rfl, rfl⟩ := HNN.out
        have hmn : ¬ (k : Int) + 1 ≤ min (n : Int) (m : Int) := by omega
        clear hlt
        go_wp2_with fail
        go_ret3
        exact ⟨rfl, HBE.out⟩
end Go.Proofs.Ytbajgpbekanodaa
namespace Go.Proofs.Ytbajgpbekanodaa
open Go.RowKit

def ClashOut (r : ByteArray × ByteArray × Bool) (w : World) (e : Ending) (w' : World) : Prop := e = .returned (.tuple #[.string r.1, .string r.2.1, .bool r.2.2]) ∧ Below w.heap.size w w'
theorem ents_last {w : World} {ao : Option Addr} {a : List Fd.Ent} (h : EntsAt w ao a) (hn : a ≠ []) : ∃ b off, ao = some ⟨b, off, none⟩ ∧ EntAt w b (off + (a.length - 1) * 3) (lastE a) := by
  have hl : 0 < a.length := List.length_pos_iff.2 hn
  obtain ⟨b, off, h1, _, h2⟩ := h (a.length - 1) (by omega)
  exact ⟨b, off, h1, h2⟩
theorem last_mem {a : List Fd.Ent} (hn : a ≠ []) : lastE a ∈ a := by
  have hl : 0 < a.length := List.length_pos_iff.2 hn
  unfold lastE
  rw [show a.getD (a.length - 1) Ent0 = a[a.length - 1] by simp [List.getD, show a.length - 1 < a.length by omega]]
  exact List.getElem_mem _
theorem clash_any39 {H : ByteArray → ByteArray} (hS : SumLaw H) (a b : List Fd.Ent) (ao bo : Option Addr) (c1 c2 : Nat) (w : World) (hca : EntsAt w ao a) (hcb : EntsAt w bo b) (hoa : ∀ e ∈ a, e.ok) (hob : ∀ e ∈ b, e.ok) (hla : a.length ≤ 100000) (hlb : b.length ≤ 100000) :
    Calls Try.prog 39 #[.slice ao a.length c1, .slice bo b.length c2] w (ClashOut (clashR H a b) w) := by
  unfold ClashOut
  by_cases hna : a = []
  · rw [clashR_no (fun h => h.1 hna)]
    subst hna
    exact clashF_1 ao bo b.length c1 c2 w
  by_cases hnb : b = []
  · rw [clashR_no (fun h => h.2.1 hnb)]
    subst hnb
    have hl : 0 < a.length := List.length_pos_iff.2 hna
    exact clashF_2 ao bo a.length c1 c2 w (by rw [beq_eq_false_iff_ne]; omega)
  have hl1 : 0 < a.length := List.length_pos_iff.2 hna
  have hl2 : 0 < b.length := List.length_pos_iff.2 hnb
  have n1 : ((a.length : Int) == 0) = false := by rw [beq_eq_false_iff_ne]; omega
  have n2 : ((b.length : Int) == 0) = false := by rw [beq_eq_false_iff_ne]; omega
  have GA : Hid (∀ w', Below w.heap.size w w' → Calls Try.prog 70 #[.slice ao a.length c1] w' fun e w'' => e = .returned (.bool (goesL H stE a)) ∧ Below w'.heap.size w' w'') := fun w' hb => goes_any hS a ao c1 w' (hca.kept hb (Nat.le_refl _)) hoa hla
  have GB : Hid (∀ w', Below w.heap.size w w' → Calls Try.prog 70 #[.slice bo b.length c2] w' fun e w'' => e = .returned (.bool (goesL H stE b)) ∧ Below w'.heap.size w' w'') := fun w' hb => goes_any hS b bo c2 w' (hcb.kept hb (Nat.le_refl _)) hob hlb
  cases hga : goesL H stE a with
  | false =>
    rw [clashR_no (fun h => by rw [hga] at h; cases h.2.2.1)]
    rw [hga] at GA
    exact clashF_3 ao bo a.length b.length c1 c2 w n1 n2 GA
  | true =>
    rw [hga] at GA
    cases hgb : goesL H stE b with
    | false =>
      rw [clashR_no (fun h => by rw [hgb] at h; cases h.2.2.2.1)]
      rw [hgb] at GB
      exact clashF_4 ao bo a.length b.length c1 c2 w n1 n2 GA GB
    | true =>
      rw [hgb] at GB
      obtain ⟨b1, o1, rfl, he1⟩ := ents_last hca hna
      obtain ⟨b2, o2, rfl, he2⟩ := ents_last hcb hnb
      have CA : Hid (∀ w', Calls Try.prog 49 #[(lastE a).val] w' fun e w'' => e = .returned (.string (H (lastE a).text)) ∧ Below w'.heap.size w' w'') := fun w' => feedHash_any hS _ (hoa _ (last_mem hna)) w'
      have CB : Hid (∀ w', Calls Try.prog 49 #[(lastE b).val] w' fun e w'' => e = .returned (.string (H (lastE b).text)) ∧ Below w'.heap.size w' w'') := fun w' => feedHash_any hS _ (hob _ (last_mem hnb)) w'
      by_cases hh : H (lastE a).text = H (lastE b).text
      · have hall : a ≠ [] ∧ b ≠ [] ∧ goesL H stE a = true ∧ goesL H stE b = true ∧ H (lastE a).text = H (lastE b).text := ⟨hna, hnb, hga, hgb, hh⟩
        rw [← hh] at CB
        have HRN : Hid (firstDiff a.reverse b.reverse = none → (clashR H a b).1 = ByteArray.empty ∧ (clashR H a b).2.1 = ByteArray.empty ∧ (clashR H a b).2.2 = false) := fun h => by rw [clashR_none h]; exact ⟨rfl, rfl, rfl⟩
        have HRY : Hid (∀ x y, firstDiff a.reverse b.reverse = some (x, y) → (clashR H a b).1 = x.text ∧ (clashR H a b).2.1 = y.text ∧ (clashR H a b).2.2 = true) := fun x y h => by rw [clashR_yes hall h]; exact ⟨rfl, rfl, rfl⟩
        exact clashF_yes a b a.length b.length c1 c2 b1 o1 b2 o2 (a.length - 1) (b.length - 1) (lastE a).seq (lastE b).seq (lastE a).prev (lastE a).body (lastE b).prev (lastE b).body (H (lastE a).text) _ _ _ w n1 n2 rfl rfl GA GB (by omega) (by omega) (by omega) (by omega) (by omega) (by omega) he1 he2 CA CB hca hcb hoa hob HRN HRY
      · rw [clashR_no (fun h => hh h.2.2.2.2)]
        exact clashF_5 a.length b.length c1 c2 b1 o1 b2 o2 (a.length - 1) (b.length - 1) (lastE a).seq (lastE b).seq (lastE a).prev (lastE a).body (lastE b).prev (lastE b).body (H (lastE a).text) (H (lastE b).text) w n1 n2 GA GB (by omega) (by omega) (by omega) (by omega) (by omega) (by omega) he1 he2 CA CB (by rw [beq_eq_false_iff_ne]; exact toList_ne hh)
end Go.Proofs.Ytbajgpbekanodaa
