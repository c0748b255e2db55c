/- The walk over pandectlaw38's DigestClash. -/
import Derived.Test.YtbajgpbekanodaaDigClashC
namespace Go.Proofs.Ytbajgpbekanodaa
open Go.RowKit

set_option maxRecDepth 100000 in
set_option maxHeartbeats 4000000 in
theorem clashW_no (root leaf rt : ByteArray) (cn i : Int) (pv : Bool) (ap ao : Option Addr) (m cp n cap : Nat) (w : World) (hl : (leaf.size : Int) ≤ 3000) (hm : (m : Int) ≤ 70)
    (C0 : Hid (∀ w', Below w.heap.size w w' → Calls Try.prog 15 #[.slice ao n cap, .int .i64 3000] w' fun e w'' => e = .returned (.bool true) ∧ w' = w''))
    (C1 : Hid (∀ w', Below w.heap.size w w' → Calls Try.prog 17 #[.int .i64 i, .string leaf, .slice ap m cp, .slice ao n cap] w' fun e w'' => e = .returned (.tuple #[.string ByteArray.empty, .string ByteArray.empty, .bool false]) ∧ Below w'.heap.size w' w''))
    (C2 : Hid (∀ w', Below w.heap.size w w' → Calls Try.prog 19 #[.slice ao n cap] w' fun e w'' => e = .returned (.string rt) ∧ Below w'.heap.size w' w''))
    (C3 : Hid (∀ w', Below w.heap.size w w' → Calls Try.prog 18 #[.string rt, .int .i64 (n : Int), .int .i64 i, .string leaf, .slice ap m cp] w' fun e w'' => e = .returned (.bool pv) ∧ Below w'.heap.size w' w''))
    (hcl : Hid (0 ≤ i → i < (n : Int) → ∃ b off s, ao = some ⟨b, off, none⟩ ∧ b < w.heap.size ∧ w.cell? ⟨b, off + i.toNat, none⟩ = some (.string s) ∧ (s ≠ leaf → pv = false))) :
    Calls Try.prog 3 #[.slice ao n cap, .agg #[.string root, .int .i64 cn, .int .i64 i, .string leaf], .slice ap m cp] w fun e w' => e = .returned (.bool true) ∧ Below w.heap.size w w' := by
  have d1 : decide ((70 : Int) < (m : Int)) = false := decide_eq_false (by omega)
  have d2 : decide ((3000 : Int) < (leaf.size : Int)) = false := decide_eq_false (by omega)
  go_enter Try.func3, Try.ntmps3
  go_upto_region 1 with fail
  refine name_world (fun w3 => w3.cell? ⟨w.heap.size, 2, none⟩ = some (.int .i64 i) ∧ w3.cell? ⟨w.heap.size, 3, none⟩ = some (.string leaf) ∧ Below w.heap.size w w3) ⟨?_, ?_, (Below.refl _ w).alloc (Nat.le_refl _) _⟩ ?_
  · exact cells_new w [.string root, .int .i64 cn, .int .i64 i, .string leaf] _ 2 _ rfl
  · exact cells_new w [.string root, .int .i64 cn, .int .i64 i, .string leaf] _ 3 _ rfl
  rintro w3 ⟨hI3, hL3, hb3⟩
  have HB3 := Lib.hid hb3
  clear hb3
  go_wp2_with fail
  refine (C0.out _ HB3.out).mono ?_
  rintro e w4 ⟨rfl, rfl⟩
  go_wp2_with fail
  refine (C1.out _ HB3.out).mono ?_
  rintro e w5 ⟨rfl, hb5⟩
  have hI := (hb5.cell (p := ⟨w.heap.size, 2, none⟩) (World.block_lt_of_cell? _ _ hI3)).trans hI3
  have hL := (hb5.cell (p := ⟨w.heap.size, 3, none⟩) (World.block_lt_of_cell? _ _ hL3)).trans hL3
  have HB5 := Lib.hid (HB3.out.trans (hb5.mono HB3.out.size))
  clear hb5 hI3 hL3 HB3 C0 C1
  go_wp2_with fail
  by_cases h0 : 0 ≤ i
  · obtain ⟨k, rfl⟩ := Int.eq_ofNat_of_zero_le h0
    by_cases h1 : (k : Int) < (n : Int)
    · obtain ⟨b, off, s, rfl, hbw, hcell, hpv⟩ := hcl.out h0 h1
      rw [Int.toNat_natCast] at hcell
      have hC := (HB5.out.cell (p := ⟨b, off + k, none⟩) hbw).trans hcell
      have HPV := Lib.hid hpv
      clear hcell hpv hcl
      by_cases hs : s = leaf
      · subst hs
        go_quiet (fail)
        go_wp2_with fail
        refine (awake38_any _).mono ?_
        rintro e w6 ⟨rfl, hb6⟩
        go_wp2_with fail
        go_ret
        exact ⟨rfl, (below_drewN HB5.out nq).trans (hb6.mono (below_drewN HB5.out nq).size)⟩
      · have hb : (s.toList == leaf.toList) = false := by rw [bytes_beq]; exact decide_eq_false hs
        obtain rfl := HPV.out hs
        clear hs HPV
        refine wp_region_puts2 (R := fun i w' v => v = [Value.pointer (some ⟨w.heap.size, 2, none⟩), .int .i64 (k : Int), .bool true, .bool true, .pointer (some ⟨w.heap.size, 2, none⟩), .int .i64 (k : Int), .slice (some ⟨b, off, none⟩) n cap, .int .i64 (n : Int), .bool true, .bool true, .bool true, .slice (some ⟨b, off, none⟩) n cap, .pointer (some ⟨w.heap.size, 2, none⟩), .int .i64 (k : Int), .pointer (some ⟨b, off + k, none⟩), .string s, .pointer (some ⟨w.heap.size, 3, none⟩), .string leaf, .bool true, .bool true, .bool true, .slice (some ⟨b, off, none⟩) n cap, .string rt, .slice (some ⟨b, off, none⟩) n cap, .int .i64 (n : Int), .pointer (some ⟨w.heap.size, 2, none⟩), .int .i64 (k : Int), .pointer (some ⟨w.heap.size, 3, none⟩), .string leaf, .slice ap m cp, .bool false, .bool false, .bool false].getD i undef)
          (by kernel_rfl) (by kernel_rfl) (by kernel_rfl) ?hRR (by kernel_rfl) (steps_of ?hs) ?hd
        case hRR =>
          intro i w1 w2 v hb hv
          exact hv
        case hs =>
          refine ⟨?_, ?_, ?_, ?_, ?_, ?_, ?_, ?_, ?_, ?_, ?_, ?_, ?_, ?_, ?_, ?_, ?_, ?_, ?_, ?_, ?_, ?_, ?_, ?_, ?_, ?_, ?_, ?_, ?_, ?_, ?_, ?_, ?_, trivial⟩
          · refine stepOk_value rfl fun a w5 ht => ?_
            have e4 : a.tmps[4]?.getD undef = .pointer (some ⟨w.heap.size, 0, none⟩) := ht.old' 4 (.pointer (some ⟨w.heap.size, 0, none⟩)) (by kernel_rfl) rfl
            exact ⟨Value.pointer (some ⟨w.heap.size, 2, none⟩), w5, by go_simp, Below.refl _ _, rfl⟩
          · refine stepOk_value rfl fun a w5 ht => ?_
            have e37 : a.tmps[37]?.getD undef = Value.pointer (some ⟨w.heap.size, 2, none⟩) := ht.dep' 0 37 (by kernel_rfl) rfl
            have hc := (ht.below.cell (p := ⟨w.heap.size, 2, none⟩) (World.block_lt_of_cell? _ _ hI)).trans hI
            exact ⟨.int .i64 (k : Int), w5, by go_simp, Below.refl _ _, rfl⟩
          · refine stepOk_value rfl fun a w5 ht => ?_
            have e38 : a.tmps[38]?.getD undef = .int .i64 (k : Int) := ht.dep' 1 38 (by kernel_rfl) rfl
            exact ⟨.bool true, w5, by go_simp, Below.refl _ _, rfl⟩
          · refine stepOk_value rfl fun a w5 ht => ?_
            have e39 : a.tmps[39]?.getD undef = .bool true := ht.dep' 2 39 (by kernel_rfl) rfl
            exact ⟨.bool true, w5, by go_simp, Below.refl _ _, rfl⟩
          · refine stepOk_value_guarded 3 40 true rfl (by kernel_rfl) rfl (Nat.le_of_ble_eq_true rfl) (fun w v h => h) fun a w5 ht => ?_
            have e4 : a.tmps[4]?.getD undef = .pointer (some ⟨w.heap.size, 0, none⟩) := ht.old' 4 (.pointer (some ⟨w.heap.size, 0, none⟩)) (by kernel_rfl) rfl
            exact ⟨.pointer (some ⟨w.heap.size, 2, none⟩), w5, by go_simp, Below.refl _ _, rfl⟩
          · refine stepOk_value_guarded 3 40 true rfl (by kernel_rfl) rfl (Nat.le_of_ble_eq_true rfl) (fun w v h => h) fun a w5 ht => ?_
            have e41 : a.tmps[41]?.getD undef = .pointer (some ⟨w.heap.size, 2, none⟩) := ht.dep' 4 41 (by kernel_rfl) rfl
            have hc := (ht.below.cell (p := ⟨w.heap.size, 2, none⟩) (World.block_lt_of_cell? _ _ hI)).trans hI
            exact ⟨.int .i64 (k : Int), w5, by go_simp, Below.refl _ _, rfl⟩
          · refine stepOk_value_guarded 3 40 true rfl (by kernel_rfl) rfl (Nat.le_of_ble_eq_true rfl) (fun w v h => h) fun a w5 ht => ?_
            have e0 : a.tmps[0]?.getD undef = .slice (some ⟨b, off, none⟩) n cap := ht.old' 0 (.slice (some ⟨b, off, none⟩) n cap) (by kernel_rfl) rfl
            exact ⟨.slice (some ⟨b, off, none⟩) n cap, w5, by go_simp, Below.refl _ _, rfl⟩
          · refine stepOk_value_guarded 3 40 true rfl (by kernel_rfl) rfl (Nat.le_of_ble_eq_true rfl) (fun w v h => h) fun a w5 ht => ?_
            have e43 : a.tmps[43]?.getD undef = .slice (some ⟨b, off, none⟩) n cap := ht.dep' 6 43 (by kernel_rfl) rfl
            exact ⟨.int .i64 (n : Int), w5, by go_simp, Below.refl _ _, rfl⟩
          · refine stepOk_value_guarded 3 40 true rfl (by kernel_rfl) rfl (Nat.le_of_ble_eq_true rfl) (fun w v h => h) fun a w5 ht => ?_
            have e42 : a.tmps[42]?.getD undef = .int .i64 (k : Int) := ht.dep' 5 42 (by kernel_rfl) rfl
            have e44 : a.tmps[44]?.getD undef = .int .i64 (n : Int) := ht.dep' 7 44 (by kernel_rfl) rfl
            exact ⟨.bool true, w5, by go_simp, Below.refl _ _, rfl⟩
          · refine stepOk_value rfl fun a w5 ht => ?_
            have e40 : a.tmps[40]?.getD undef = .bool true := ht.dep' 3 40 (by kernel_rfl) rfl
            have e45 : a.tmps[45]?.getD undef = .bool true := ht.dep' 8 45 (by kernel_rfl) rfl
            exact ⟨.bool true, w5, by go_simp, Below.refl _ _, rfl⟩
          · refine stepOk_value rfl fun a w5 ht => ?_
            have e46 : a.tmps[46]?.getD undef = .bool true := ht.dep' 9 46 (by kernel_rfl) rfl
            exact ⟨.bool true, w5, by go_simp, Below.refl _ _, rfl⟩
          · refine stepOk_value_guarded 10 47 true rfl (by kernel_rfl) rfl (Nat.le_of_ble_eq_true rfl) (fun w v h => h) fun a w5 ht => ?_
            have e0 : a.tmps[0]?.getD undef = .slice (some ⟨b, off, none⟩) n cap := ht.old' 0 (.slice (some ⟨b, off, none⟩) n cap) (by kernel_rfl) rfl
            exact ⟨.slice (some ⟨b, off, none⟩) n cap, w5, by go_simp, Below.refl _ _, rfl⟩
          · refine stepOk_value_guarded 10 47 true rfl (by kernel_rfl) rfl (Nat.le_of_ble_eq_true rfl) (fun w v h => h) fun a w5 ht => ?_
            have e4 : a.tmps[4]?.getD undef = .pointer (some ⟨w.heap.size, 0, none⟩) := ht.old' 4 (.pointer (some ⟨w.heap.size, 0, none⟩)) (by kernel_rfl) rfl
            exact ⟨.pointer (some ⟨w.heap.size, 2, none⟩), w5, by go_simp, Below.refl _ _, rfl⟩
          · refine stepOk_value_guarded 10 47 true rfl (by kernel_rfl) rfl (Nat.le_of_ble_eq_true rfl) (fun w v h => h) fun a w5 ht => ?_
            have e49 : a.tmps[49]?.getD undef = .pointer (some ⟨w.heap.size, 2, none⟩) := ht.dep' 12 49 (by kernel_rfl) rfl
            have hc := (ht.below.cell (p := ⟨w.heap.size, 2, none⟩) (World.block_lt_of_cell? _ _ hI)).trans hI
            exact ⟨.int .i64 (k : Int), w5, by go_simp, Below.refl _ _, rfl⟩
          · refine stepOk_value_guarded 10 47 true rfl (by kernel_rfl) rfl (Nat.le_of_ble_eq_true rfl) (fun w v h => h) fun a w5 ht => ?_
            have e48 : a.tmps[48]?.getD undef = .slice (some ⟨b, off, none⟩) n cap := ht.dep' 11 48 (by kernel_rfl) rfl
            have e50 : a.tmps[50]?.getD undef = .int .i64 (k : Int) := ht.dep' 13 50 (by kernel_rfl) rfl
            exact ⟨.pointer (some ⟨b, off + k, none⟩), w5, by go_simp, Below.refl _ _, rfl⟩
          · refine stepOk_value_guarded 10 47 true rfl (by kernel_rfl) rfl (Nat.le_of_ble_eq_true rfl) (fun w v h => h) fun a w5 ht => ?_
            have e51 : a.tmps[51]?.getD undef = .pointer (some ⟨b, off + k, none⟩) := ht.dep' 14 51 (by kernel_rfl) rfl
            have hc := (ht.below.cell (p := ⟨b, off + k, none⟩) (World.block_lt_of_cell? _ _ hC)).trans hC
            exact ⟨.string s, w5, by go_simp, Below.refl _ _, rfl⟩
          · refine stepOk_value_guarded 10 47 true rfl (by kernel_rfl) rfl (Nat.le_of_ble_eq_true rfl) (fun w v h => h) fun a w5 ht => ?_
            have e4 : a.tmps[4]?.getD undef = .pointer (some ⟨w.heap.size, 0, none⟩) := ht.old' 4 (.pointer (some ⟨w.heap.size, 0, none⟩)) (by kernel_rfl) rfl
            exact ⟨.pointer (some ⟨w.heap.size, 3, none⟩), w5, by go_simp, Below.refl _ _, rfl⟩
          · refine stepOk_value_guarded 10 47 true rfl (by kernel_rfl) rfl (Nat.le_of_ble_eq_true rfl) (fun w v h => h) fun a w5 ht => ?_
            have e53 : a.tmps[53]?.getD undef = .pointer (some ⟨w.heap.size, 3, none⟩) := ht.dep' 16 53 (by kernel_rfl) rfl
            have hc := (ht.below.cell (p := ⟨w.heap.size, 3, none⟩) (World.block_lt_of_cell? _ _ hL)).trans hL
            exact ⟨.string leaf, w5, by go_simp, Below.refl _ _, rfl⟩
          · refine stepOk_value_guarded 10 47 true rfl (by kernel_rfl) rfl (Nat.le_of_ble_eq_true rfl) (fun w v h => h) fun a w5 ht => ?_
            have e52 : a.tmps[52]?.getD undef = .string s := ht.dep' 15 52 (by kernel_rfl) rfl
            have e54 : a.tmps[54]?.getD undef = .string leaf := ht.dep' 17 54 (by kernel_rfl) rfl
            exact ⟨.bool true, w5, by go_simp, Below.refl _ _, rfl⟩
          · refine stepOk_value rfl fun a w5 ht => ?_
            have e47 : a.tmps[47]?.getD undef = .bool true := ht.dep' 10 47 (by kernel_rfl) rfl
            have e55 : a.tmps[55]?.getD undef = .bool true := ht.dep' 18 55 (by kernel_rfl) rfl
            exact ⟨.bool true, w5, by go_simp, Below.refl _ _, rfl⟩
          · refine stepOk_value rfl fun a w5 ht => ?_
            have e56 : a.tmps[56]?.getD undef = .bool true := ht.dep' 19 56 (by kernel_rfl) rfl
            exact ⟨.bool true, w5, by go_simp, Below.refl _ _, rfl⟩
          · refine stepOk_value_guarded 20 57 true rfl (by kernel_rfl) rfl (Nat.le_of_ble_eq_true rfl) (fun w v h => h) fun a w5 ht => ?_
            have e0 : a.tmps[0]?.getD undef = .slice (some ⟨b, off, none⟩) n cap := ht.old' 0 (.slice (some ⟨b, off, none⟩) n cap) (by kernel_rfl) rfl
            exact ⟨.slice (some ⟨b, off, none⟩) n cap, w5, by go_simp, Below.refl _ _, rfl⟩
          · refine stepOk_call_guarded 20 57 true rfl (by kernel_rfl) rfl (Nat.le_of_ble_eq_true rfl) (fun w v h => h) fun a w5 ht => ?_
            have e58 : a.tmps[58]?.getD undef = .slice (some ⟨b, off, none⟩) n cap := ht.dep' 21 58 (by kernel_rfl) rfl
            refine ⟨19, #[.slice (some ⟨b, off, none⟩) n cap], by go_simp, (C2.out _ (HB5.out.trans (ht.below.mono HB5.out.size))).mono ?_⟩
            rintro e w' ⟨rfl, hb⟩
            exact ⟨_, rfl, hb, rfl⟩
          · refine stepOk_value_guarded 20 57 true rfl (by kernel_rfl) rfl (Nat.le_of_ble_eq_true rfl) (fun w v h => h) fun a w5 ht => ?_
            have e0 : a.tmps[0]?.getD undef = .slice (some ⟨b, off, none⟩) n cap := ht.old' 0 (.slice (some ⟨b, off, none⟩) n cap) (by kernel_rfl) rfl
            exact ⟨.slice (some ⟨b, off, none⟩) n cap, w5, by go_simp, Below.refl _ _, rfl⟩
          · refine stepOk_value_guarded 20 57 true rfl (by kernel_rfl) rfl (Nat.le_of_ble_eq_true rfl) (fun w v h => h) fun a w5 ht => ?_
            have e60 : a.tmps[60]?.getD undef = .slice (some ⟨b, off, none⟩) n cap := ht.dep' 23 60 (by kernel_rfl) rfl
            exact ⟨.int .i64 (n : Int), w5, by go_simp, Below.refl _ _, rfl⟩
          · refine stepOk_value_guarded 20 57 true rfl (by kernel_rfl) rfl (Nat.le_of_ble_eq_true rfl) (fun w v h => h) fun a w5 ht => ?_
            have e4 : a.tmps[4]?.getD undef = .pointer (some ⟨w.heap.size, 0, none⟩) := ht.old' 4 (.pointer (some ⟨w.heap.size, 0, none⟩)) (by kernel_rfl) rfl
            exact ⟨.pointer (some ⟨w.heap.size, 2, none⟩), w5, by go_simp, Below.refl _ _, rfl⟩
          · refine stepOk_value_guarded 20 57 true rfl (by kernel_rfl) rfl (Nat.le_of_ble_eq_true rfl) (fun w v h => h) fun a w5 ht => ?_
            have e62 : a.tmps[62]?.getD undef = .pointer (some ⟨w.heap.size, 2, none⟩) := ht.dep' 25 62 (by kernel_rfl) rfl
            have hc := (ht.below.cell (p := ⟨w.heap.size, 2, none⟩) (World.block_lt_of_cell? _ _ hI)).trans hI
            exact ⟨.int .i64 (k : Int), w5, by go_simp, Below.refl _ _, rfl⟩
          · refine stepOk_value_guarded 20 57 true rfl (by kernel_rfl) rfl (Nat.le_of_ble_eq_true rfl) (fun w v h => h) fun a w5 ht => ?_
            have e4 : a.tmps[4]?.getD undef = .pointer (some ⟨w.heap.size, 0, none⟩) := ht.old' 4 (.pointer (some ⟨w.heap.size, 0, none⟩)) (by kernel_rfl) rfl
            exact ⟨.pointer (some ⟨w.heap.size, 3, none⟩), w5, by go_simp, Below.refl _ _, rfl⟩
          · refine stepOk_value_guarded 20 57 true rfl (by kernel_rfl) rfl (Nat.le_of_ble_eq_true rfl) (fun w v h => h) fun a w5 ht => ?_
            have e64 : a.tmps[64]?.getD undef = .pointer (some ⟨w.heap.size, 3, none⟩) := ht.dep' 27 64 (by kernel_rfl) rfl
            have hc := (ht.below.cell (p := ⟨w.heap.size, 3, none⟩) (World.block_lt_of_cell? _ _ hL)).trans hL
            exact ⟨.string leaf, w5, by go_simp, Below.refl _ _, rfl⟩
          · refine stepOk_value_guarded 20 57 true rfl (by kernel_rfl) rfl (Nat.le_of_ble_eq_true rfl) (fun w v h => h) fun a w5 ht => ?_
            have e2 : a.tmps[2]?.getD undef = .slice ap m cp := ht.old' 2 (.slice ap m cp) (by kernel_rfl) rfl
            exact ⟨.slice ap m cp, w5, by go_simp, Below.refl _ _, rfl⟩
          · refine stepOk_call_guarded 20 57 true rfl (by kernel_rfl) rfl (Nat.le_of_ble_eq_true rfl) (fun w v h => h) fun a w5 ht => ?_
            have e59 : a.tmps[59]?.getD undef = .string rt := ht.dep' 22 59 (by kernel_rfl) rfl
            have e61 : a.tmps[61]?.getD undef = .int .i64 (n : Int) := ht.dep' 24 61 (by kernel_rfl) rfl
            have e63 : a.tmps[63]?.getD undef = .int .i64 (k : Int) := ht.dep' 26 63 (by kernel_rfl) rfl
            have e65 : a.tmps[65]?.getD undef = .string leaf := ht.dep' 28 65 (by kernel_rfl) rfl
            have e66 : a.tmps[66]?.getD undef = .slice ap m cp := ht.dep' 29 66 (by kernel_rfl) rfl
            refine ⟨18, #[.string rt, .int .i64 (n : Int), .int .i64 (k : Int), .string leaf, .slice ap m cp], by go_simp, (C3.out _ (HB5.out.trans (ht.below.mono HB5.out.size))).mono ?_⟩
            rintro e w' ⟨rfl, hb⟩
            exact ⟨_, rfl, hb, rfl⟩
          · refine stepOk_value rfl fun a w5 ht => ?_
            have e57 : a.tmps[57]?.getD undef = .bool true := ht.dep' 20 57 (by kernel_rfl) rfl
            have e67 : a.tmps[67]?.getD undef = .bool false := ht.dep' 30 67 (by kernel_rfl) rfl
            exact ⟨.bool false, w5, by go_simp, Below.refl _ _, rfl⟩
          · refine stepOk_value rfl fun a w5 ht => ?_
            have e68 : a.tmps[68]?.getD undef = .bool false := ht.dep' 31 68 (by kernel_rfl) rfl
            exact ⟨.bool false, w5, by go_simp, Below.refl _ _, rfl⟩
        case hd =>
          intro vs w8 hl hb8 hvs
          have hl : vs.length = 33 := hl
          obtain ⟨v0, r0, rfl, l0⟩ := uncons vs hl
          obtain ⟨v1, r1, rfl, l1⟩ := uncons r0 l0
          obtain ⟨v2, r2, rfl, l2⟩ := uncons r1 l1
          obtain ⟨v3, r3, rfl, l3⟩ := uncons r2 l2
          obtain ⟨v4, r4, rfl, l4⟩ := uncons r3 l3
          obtain ⟨v5, r5, rfl, l5⟩ := uncons r4 l4
          obtain ⟨v6, r6, rfl, l6⟩ := uncons r5 l5
          obtain ⟨v7, r7, rfl, l7⟩ := uncons r6 l6
          obtain ⟨v8, r8, rfl, l8⟩ := uncons r7 l7
          obtain ⟨v9, r9, rfl, l9⟩ := uncons r8 l8
          obtain ⟨v10, r10, rfl, l10⟩ := uncons r9 l9
          obtain ⟨v11, r11, rfl, l11⟩ := uncons r10 l10
          obtain ⟨v12, r12, rfl, l12⟩ := uncons r11 l11
          obtain ⟨v13, r13, rfl, l13⟩ := uncons r12 l12
          obtain ⟨v14, r14, rfl, l14⟩ := uncons r13 l13
          obtain ⟨v15, r15, rfl, l15⟩ := uncons r14 l14
          obtain ⟨v16, r16, rfl, l16⟩ := uncons r15 l15
          obtain ⟨v17, r17, rfl, l17⟩ := uncons r16 l16
          obtain ⟨v18, r18, rfl, l18⟩ := uncons r17 l17
          obtain ⟨v19, r19, rfl, l19⟩ := uncons r18 l18
          obtain ⟨v20, r20, rfl, l20⟩ := uncons r19 l19
          obtain ⟨v21, r21, rfl, l21⟩ := uncons r20 l20
          obtain ⟨v22, r22, rfl, l22⟩ := uncons r21 l21
          obtain ⟨v23, r23, rfl, l23⟩ := uncons r22 l22
          obtain ⟨v24, r24, rfl, l24⟩ := uncons r23 l23
          obtain ⟨v25, r25, rfl, l25⟩ := uncons r24 l24
          obtain ⟨v26, r26, rfl, l26⟩ := uncons r25 l25
          obtain ⟨v27, r27, rfl, l27⟩ := uncons r26 l26
          obtain ⟨v28, r28, rfl, l28⟩ := uncons r27 l27
          obtain ⟨v29, r29, rfl, l29⟩ := uncons r28 l28
          obtain ⟨v30, r30, rfl, l30⟩ := uncons r29 l29
          obtain ⟨v31, r31, rfl, l31⟩ := uncons r30 l30
          obtain ⟨v32, r32, rfl, l32⟩ := uncons r31 l31
          obtain rfl := List.eq_nil_of_length_eq_zero l32
          have h32 : v32 = .bool false := hvs 32 (by decide)
          subst h32
          clear hvs
          simp only [puts, List.map, go_sem, List.setIfInBounds_toArray, List.set_cons_succ, List.set_cons_zero]
          go_wp2_with fail
          refine (awake38_any _).mono ?_
          rintro e w6 ⟨rfl, hb6⟩
          go_wp2_with fail
          go_ret
          exact ⟨rfl, (HB5.out.trans (hb8.mono HB5.out.size)).trans (hb6.mono (HB5.out.trans (hb8.mono HB5.out.size)).size)⟩
    · have d4 : decide ((k : Int) < (n : Int)) = false := decide_eq_false h1
      go_quiet (fail)
      go_wp2_with fail
      refine (awake38_any _).mono ?_
      rintro e w6 ⟨rfl, hb6⟩
      go_wp2_with fail
      go_ret
      exact ⟨rfl, (below_drewN HB5.out nq).trans (hb6.mono (below_drewN HB5.out nq).size)⟩
  · have d3 : decide (0 ≤ i) = false := decide_eq_false h0
    go_quiet (fail)
    go_wp2_with fail
    refine (awake38_any _).mono ?_
    rintro e w6 ⟨rfl, hb6⟩
    go_wp2_with fail
    go_ret
    exact ⟨rfl, (below_drewN HB5.out nq).trans (hb6.mono (below_drewN HB5.out nq).size)⟩

set_option maxRecDepth 100000 in
set_option maxHeartbeats 4000000 in
theorem clashW_yes {H : ByteArray → ByteArray} (hS : SumLaw H) (root leaf rt s : ByteArray) (cn : Int) (b off k : Nat) (ap : Option Addr) (m cp n cap : Nat) (w : World) (hl : (leaf.size : Int) ≤ 3000) (hm : (m : Int) ≤ 70)
    (h1 : (k : Int) < (n : Int)) (hbw : b < w.heap.size) (hcell : w.cell? ⟨b, off + k, none⟩ = some (.string s)) (hb : (s.toList == leaf.toList) = false)
    (C0 : Hid (∀ w', Below w.heap.size w w' → Calls Try.prog 15 #[.slice (some ⟨b, off, none⟩) n cap, .int .i64 3000] w' fun e w'' => e = .returned (.bool true) ∧ w' = w''))
    (C1 : Hid (∀ w', Below w.heap.size w w' → Calls Try.prog 17 #[.int .i64 (k : Int), .string leaf, .slice ap m cp, .slice (some ⟨b, off, none⟩) n cap] w' fun e w'' => ClashOut H e ∧ Below w'.heap.size w' w''))
    (C2 : Hid (∀ w', Below w.heap.size w w' → Calls Try.prog 19 #[.slice (some ⟨b, off, none⟩) n cap] w' fun e w'' => e = .returned (.string rt) ∧ Below w'.heap.size w' w''))
    (C3 : Hid (∀ w', Below w.heap.size w w' → Calls Try.prog 18 #[.string rt, .int .i64 (n : Int), .int .i64 (k : Int), .string leaf, .slice ap m cp] w' fun e w'' => e = .returned (.bool true) ∧ Below w'.heap.size w' w'')) :
    Calls Try.prog 3 #[.slice (some ⟨b, off, none⟩) n cap, .agg #[.string root, .int .i64 cn, .int .i64 (k : Int), .string leaf], .slice ap m cp] w fun e w' => e = .returned (.bool true) ∧ Below w.heap.size w w' := by
  have d1 : decide ((70 : Int) < (m : Int)) = false := decide_eq_false (by omega)
  have d2 : decide ((3000 : Int) < (leaf.size : Int)) = false := decide_eq_false (by omega)
  have hk0 : (0 : Int) ≤ (k : Int) := Int.natCast_nonneg _
  go_enter Try.func3, Try.ntmps3
  go_upto_region 1 with fail
  refine name_world (fun w3 => w3.cell? ⟨w.heap.size, 2, none⟩ = some (.int .i64 (k : Int)) ∧ w3.cell? ⟨w.heap.size, 3, none⟩ = some (.string leaf) ∧ Below w.heap.size w w3) ⟨?_, ?_, (Below.refl _ w).alloc (Nat.le_refl _) _⟩ ?_
  · exact cells_new w [.string root, .int .i64 cn, .int .i64 (k : Int), .string leaf] _ 2 _ rfl
  · exact cells_new w [.string root, .int .i64 cn, .int .i64 (k : Int), .string leaf] _ 3 _ rfl
  rintro w3 ⟨hI3, hL3, hb3⟩
  have HB3 := Lib.hid hb3
  clear hb3
  go_wp2_with fail
  refine (C0.out _ HB3.out).mono ?_
  rintro e w4 ⟨rfl, rfl⟩
  go_wp2_with fail
  refine (C1.out _ HB3.out).mono ?_
  rintro e w5 ⟨⟨x, y, rfl, hxy, hH, hx, hy⟩, hb5⟩
  have hI := (hb5.cell (p := ⟨w.heap.size, 2, none⟩) (World.block_lt_of_cell? _ _ hI3)).trans hI3
  have hL := (hb5.cell (p := ⟨w.heap.size, 3, none⟩) (World.block_lt_of_cell? _ _ hL3)).trans hL3
  have HB5 := Lib.hid (HB3.out.trans (hb5.mono HB3.out.size))
  have hC := (HB5.out.cell (p := ⟨b, off + k, none⟩) hbw).trans hcell
  have hxb : (x.toList == y.toList) = false := by rw [bytes_beq]; exact decide_eq_false hxy
  have C4 := Lib.hid (fun ao w h => sum_one hS x (by omega) ao w h)
  have C5 := Lib.hid (fun ao w h => sum_one hS y (by omega) ao w h)
  rw [← hH] at C5
  generalize H x = d at *
  clear hb5 hI3 hL3 HB3 C0 C1 hcell hxy hH hx hy
  go_wp2_with fail
  refine wp_region_puts2 (R := fun i w' v => v = [Value.pointer (some ⟨w.heap.size, 2, none⟩), .int .i64 (k : Int), .bool true, .bool true, .pointer (some ⟨w.heap.size, 2, none⟩), .int .i64 (k : Int), .slice (some ⟨b, off, none⟩) n cap, .int .i64 (n : Int), .bool true, .bool true, .bool true, .slice (some ⟨b, off, none⟩) n cap, .pointer (some ⟨w.heap.size, 2, none⟩), .int .i64 (k : Int), .pointer (some ⟨b, off + k, none⟩), .string s, .pointer (some ⟨w.heap.size, 3, none⟩), .string leaf, .bool true, .bool true, .bool true, .slice (some ⟨b, off, none⟩) n cap, .string rt, .slice (some ⟨b, off, none⟩) n cap, .int .i64 (n : Int), .pointer (some ⟨w.heap.size, 2, none⟩), .int .i64 (k : Int), .pointer (some ⟨w.heap.size, 3, none⟩), .string leaf, .slice ap m cp, .bool true, .bool true, .bool true].getD i undef)
    (by kernel_rfl) (by kernel_rfl) (by kernel_rfl) ?hRR (by kernel_rfl) (steps_of ?hs) ?hd
  case hRR =>
    intro i w1 w2 v hb hv
    exact hv
  case hs =>
    refine ⟨?_, ?_, ?_, ?_, ?_, ?_, ?_, ?_, ?_, ?_, ?_, ?_, ?_, ?_, ?_, ?_, ?_, ?_, ?_, ?_, ?_, ?_, ?_, ?_, ?_, ?_, ?_, ?_, ?_, ?_, ?_, ?_, ?_, trivial⟩
    · refine stepOk_value rfl fun a w5 ht => ?_
      have e4 : a.tmps[4]?.getD undef = .pointer (some ⟨w.heap.size, 0, none⟩) := ht.old' 4 (.pointer (some ⟨w.heap.size, 0, none⟩)) (by kernel_rfl) rfl
      exact ⟨Value.pointer (some ⟨w.heap.size, 2, none⟩), w5, by go_simp, Below.refl _ _, rfl⟩
    · refine stepOk_value rfl fun a w5 ht => ?_
      have e37 : a.tmps[37]?.getD undef = Value.pointer (some ⟨w.heap.size, 2, none⟩) := ht.dep' 0 37 (by kernel_rfl) rfl
      have hc := (ht.below.cell (p := ⟨w.heap.size, 2, none⟩) (World.block_lt_of_cell? _ _ hI)).trans hI
      exact ⟨.int .i64 (k : Int), w5, by go_simp, Below.refl _ _, rfl⟩
    · refine stepOk_value rfl fun a w5 ht => ?_
      have e38 : a.tmps[38]?.getD undef = .int .i64 (k : Int) := ht.dep' 1 38 (by kernel_rfl) rfl
      exact ⟨.bool true, w5, by go_simp, Below.refl _ _, rfl⟩
    · refine stepOk_value rfl fun a w5 ht => ?_
      have e39 : a.tmps[39]?.getD undef = .bool true := ht.dep' 2 39 (by kernel_rfl) rfl
      exact ⟨.bool true, w5, by go_simp, Below.refl _ _, rfl⟩
    · refine stepOk_value_guarded 3 40 true rfl (by kernel_rfl) rfl (Nat.le_of_ble_eq_true rfl) (fun w v h => h) fun a w5 ht => ?_
      have e4 : a.tmps[4]?.getD undef = .pointer (some ⟨w.heap.size, 0, none⟩) := ht.old' 4 (.pointer (some ⟨w.heap.size, 0, none⟩)) (by kernel_rfl) rfl
      exact ⟨.pointer (some ⟨w.heap.size, 2, none⟩), w5, by go_simp, Below.refl _ _, rfl⟩
    · refine stepOk_value_guarded 3 40 true rfl (by kernel_rfl) rfl (Nat.le_of_ble_eq_true rfl) (fun w v h => h) fun a w5 ht => ?_
      have e41 : a.tmps[41]?.getD undef = .pointer (some ⟨w.heap.size, 2, none⟩) := ht.dep' 4 41 (by kernel_rfl) rfl
      have hc := (ht.below.cell (p := ⟨w.heap.size, 2, none⟩) (World.block_lt_of_cell? _ _ hI)).trans hI
      exact ⟨.int .i64 (k : Int), w5, by go_simp, Below.refl _ _, rfl⟩
    · refine stepOk_value_guarded 3 40 true rfl (by kernel_rfl) rfl (Nat.le_of_ble_eq_true rfl) (fun w v h => h) fun a w5 ht => ?_
      have e0 : a.tmps[0]?.getD undef = .slice (some ⟨b, off, none⟩) n cap := ht.old' 0 (.slice (some ⟨b, off, none⟩) n cap) (by kernel_rfl) rfl
      exact ⟨.slice (some ⟨b, off, none⟩) n cap, w5, by go_simp, Below.refl _ _, rfl⟩
    · refine stepOk_value_guarded 3 40 true rfl (by kernel_rfl) rfl (Nat.le_of_ble_eq_true rfl) (fun w v h => h) fun a w5 ht => ?_
      have e43 : a.tmps[43]?.getD undef = .slice (some ⟨b, off, none⟩) n cap := ht.dep' 6 43 (by kernel_rfl) rfl
      exact ⟨.int .i64 (n : Int), w5, by go_simp, Below.refl _ _, rfl⟩
    · refine stepOk_value_guarded 3 40 true rfl (by kernel_rfl) rfl (Nat.le_of_ble_eq_true rfl) (fun w v h => h) fun a w5 ht => ?_
      have e42 : a.tmps[42]?.getD undef = .int .i64 (k : Int) := ht.dep' 5 42 (by kernel_rfl) rfl
      have e44 : a.tmps[44]?.getD undef = .int .i64 (n : Int) := ht.dep' 7 44 (by kernel_rfl) rfl
      exact ⟨.bool true, w5, by go_simp, Below.refl _ _, rfl⟩
    · refine stepOk_value rfl fun a w5 ht => ?_
      have e40 : a.tmps[40]?.getD undef = .bool true := ht.dep' 3 40 (by kernel_rfl) rfl
      have e45 : a.tmps[45]?.getD undef = .bool true := ht.dep' 8 45 (by kernel_rfl) rfl
      exact ⟨.bool true, w5, by go_simp, Below.refl _ _, rfl⟩
    · refine stepOk_value rfl fun a w5 ht => ?_
      have e46 : a.tmps[46]?.getD undef = .bool true := ht.dep' 9 46 (by kernel_rfl) rfl
      exact ⟨.bool true, w5, by go_simp, Below.refl _ _, rfl⟩
    · refine stepOk_value_guarded 10 47 true rfl (by kernel_rfl) rfl (Nat.le_of_ble_eq_true rfl) (fun w v h => h) fun a w5 ht => ?_
      have e0 : a.tmps[0]?.getD undef = .slice (some ⟨b, off, none⟩) n cap := ht.old' 0 (.slice (some ⟨b, off, none⟩) n cap) (by kernel_rfl) rfl
      exact ⟨.slice (some ⟨b, off, none⟩) n cap, w5, by go_simp, Below.refl _ _, rfl⟩
    · refine stepOk_value_guarded 10 47 true rfl (by kernel_rfl) rfl (Nat.le_of_ble_eq_true rfl) (fun w v h => h) fun a w5 ht => ?_
      have e4 : a.tmps[4]?.getD undef = .pointer (some ⟨w.heap.size, 0, none⟩) := ht.old' 4 (.pointer (some ⟨w.heap.size, 0, none⟩)) (by kernel_rfl) rfl
      exact ⟨.pointer (some ⟨w.heap.size, 2, none⟩), w5, by go_simp, Below.refl _ _, rfl⟩
    · refine stepOk_value_guarded 10 47 true rfl (by kernel_rfl) rfl (Nat.le_of_ble_eq_true rfl) (fun w v h => h) fun a w5 ht => ?_
      have e49 : a.tmps[49]?.getD undef = .pointer (some ⟨w.heap.size, 2, none⟩) := ht.dep' 12 49 (by kernel_rfl) rfl
      have hc := (ht.below.cell (p := ⟨w.heap.size, 2, none⟩) (World.block_lt_of_cell? _ _ hI)).trans hI
      exact ⟨.int .i64 (k : Int), w5, by go_simp, Below.refl _ _, rfl⟩
    · refine stepOk_value_guarded 10 47 true rfl (by kernel_rfl) rfl (Nat.le_of_ble_eq_true rfl) (fun w v h => h) fun a w5 ht => ?_
      have e48 : a.tmps[48]?.getD undef = .slice (some ⟨b, off, none⟩) n cap := ht.dep' 11 48 (by kernel_rfl) rfl
      have e50 : a.tmps[50]?.getD undef = .int .i64 (k : Int) := ht.dep' 13 50 (by kernel_rfl) rfl
      exact ⟨.pointer (some ⟨b, off + k, none⟩), w5, by go_simp, Below.refl _ _, rfl⟩
    · refine stepOk_value_guarded 10 47 true rfl (by kernel_rfl) rfl (Nat.le_of_ble_eq_true rfl) (fun w v h => h) fun a w5 ht => ?_
      have e51 : a.tmps[51]?.getD undef = .pointer (some ⟨b, off + k, none⟩) := ht.dep' 14 51 (by kernel_rfl) rfl
      have hc := (ht.below.cell (p := ⟨b, off + k, none⟩) (World.block_lt_of_cell? _ _ hC)).trans hC
      exact ⟨.string s, w5, by go_simp, Below.refl _ _, rfl⟩
    · refine stepOk_value_guarded 10 47 true rfl (by kernel_rfl) rfl (Nat.le_of_ble_eq_true rfl) (fun w v h => h) fun a w5 ht => ?_
      have e4 : a.tmps[4]?.getD undef = .pointer (some ⟨w.heap.size, 0, none⟩) := ht.old' 4 (.pointer (some ⟨w.heap.size, 0, none⟩)) (by kernel_rfl) rfl
      exact ⟨.pointer (some ⟨w.heap.size, 3, none⟩), w5, by go_simp, Below.refl _ _, rfl⟩
    · refine stepOk_value_guarded 10 47 true rfl (by kernel_rfl) rfl (Nat.le_of_ble_eq_true rfl) (fun w v h => h) fun a w5 ht => ?_
      have e53 : a.tmps[53]?.getD undef = .pointer (some ⟨w.heap.size, 3, none⟩) := ht.dep' 16 53 (by kernel_rfl) rfl
      have hc := (ht.below.cell (p := ⟨w.heap.size, 3, none⟩) (World.block_lt_of_cell? _ _ hL)).trans hL
      exact ⟨.string leaf, w5, by go_simp, Below.refl _ _, rfl⟩
    · refine stepOk_value_guarded 10 47 true rfl (by kernel_rfl) rfl (Nat.le_of_ble_eq_true rfl) (fun w v h => h) fun a w5 ht => ?_
      have e52 : a.tmps[52]?.getD undef = .string s := ht.dep' 15 52 (by kernel_rfl) rfl
      have e54 : a.tmps[54]?.getD undef = .string leaf := ht.dep' 17 54 (by kernel_rfl) rfl
      exact ⟨.bool true, w5, by go_simp, Below.refl _ _, rfl⟩
    · refine stepOk_value rfl fun a w5 ht => ?_
      have e47 : a.tmps[47]?.getD undef = .bool true := ht.dep' 10 47 (by kernel_rfl) rfl
      have e55 : a.tmps[55]?.getD undef = .bool true := ht.dep' 18 55 (by kernel_rfl) rfl
      exact ⟨.bool true, w5, by go_simp, Below.refl _ _, rfl⟩
    · refine stepOk_value rfl fun a w5 ht => ?_
      have e56 : a.tmps[56]?.getD undef = .bool true := ht.dep' 19 56 (by kernel_rfl) rfl
      exact ⟨.bool true, w5, by go_simp, Below.refl _ _, rfl⟩
    · refine stepOk_value_guarded 20 57 true rfl (by kernel_rfl) rfl (Nat.le_of_ble_eq_true rfl) (fun w v h => h) fun a w5 ht => ?_
      have e0 : a.tmps[0]?.getD undef = .slice (some ⟨b, off, none⟩) n cap := ht.old' 0 (.slice (some ⟨b, off, none⟩) n cap) (by kernel_rfl) rfl
      exact ⟨.slice (some ⟨b, off, none⟩) n cap, w5, by go_simp, Below.refl _ _, rfl⟩
    · refine stepOk_call_guarded 20 57 true rfl (by kernel_rfl) rfl (Nat.le_of_ble_eq_true rfl) (fun w v h => h) fun a w5 ht => ?_
      have e58 : a.tmps[58]?.getD undef = .slice (some ⟨b, off, none⟩) n cap := ht.dep' 21 58 (by kernel_rfl) rfl
      refine ⟨19, #[.slice (some ⟨b, off, none⟩) n cap], by go_simp, (C2.out _ (HB5.out.trans (ht.below.mono HB5.out.size))).mono ?_⟩
      rintro e w' ⟨rfl, hb⟩
      exact ⟨_, rfl, hb, rfl⟩
    · refine stepOk_value_guarded 20 57 true rfl (by kernel_rfl) rfl (Nat.le_of_ble_eq_true rfl) (fun w v h => h) fun a w5 ht => ?_
      have e0 : a.tmps[0]?.getD undef = .slice (some ⟨b, off, none⟩) n cap := ht.old' 0 (.slice (some ⟨b, off, none⟩) n cap) (by kernel_rfl) rfl
      exact ⟨.slice (some ⟨b, off, none⟩) n cap, w5, by go_simp, Below.refl _ _, rfl⟩
    · refine stepOk_value_guarded 20 57 true rfl (by kernel_rfl) rfl (Nat.le_of_ble_eq_true rfl) (fun w v h => h) fun a w5 ht => ?_
      have e60 : a.tmps[60]?.getD undef = .slice (some ⟨b, off, none⟩) n cap := ht.dep' 23 60 (by kernel_rfl) rfl
      exact ⟨.int .i64 (n : Int), w5, by go_simp, Below.refl _ _, rfl⟩
    · refine stepOk_value_guarded 20 57 true rfl (by kernel_rfl) rfl (Nat.le_of_ble_eq_true rfl) (fun w v h => h) fun a w5 ht => ?_
      have e4 : a.tmps[4]?.getD undef = .pointer (some ⟨w.heap.size, 0, none⟩) := ht.old' 4 (.pointer (some ⟨w.heap.size, 0, none⟩)) (by kernel_rfl) rfl
      exact ⟨.pointer (some ⟨w.heap.size, 2, none⟩), w5, by go_simp, Below.refl _ _, rfl⟩
    · refine stepOk_value_guarded 20 57 true rfl (by kernel_rfl) rfl (Nat.le_of_ble_eq_true rfl) (fun w v h => h) fun a w5 ht => ?_
      have e62 : a.tmps[62]?.getD undef = .pointer (some ⟨w.heap.size, 2, none⟩) := ht.dep' 25 62 (by kernel_rfl) rfl
      have hc := (ht.below.cell (p := ⟨w.heap.size, 2, none⟩) (World.block_lt_of_cell? _ _ hI)).trans hI
      exact ⟨.int .i64 (k : Int), w5, by go_simp, Below.refl _ _, rfl⟩
    · refine stepOk_value_guarded 20 57 true rfl (by kernel_rfl) rfl (Nat.le_of_ble_eq_true rfl) (fun w v h => h) fun a w5 ht => ?_
      have e4 : a.tmps[4]?.getD undef = .pointer (some ⟨w.heap.size, 0, none⟩) := ht.old' 4 (.pointer (some ⟨w.heap.size, 0, none⟩)) (by kernel_rfl) rfl
      exact ⟨.pointer (some ⟨w.heap.size, 3, none⟩), w5, by go_simp, Below.refl _ _, rfl⟩
    · refine stepOk_value_guarded 20 57 true rfl (by kernel_rfl) rfl (Nat.le_of_ble_eq_true rfl) (fun w v h => h) fun a w5 ht => ?_
      have e64 : a.tmps[64]?.getD undef = .pointer (some ⟨w.heap.size, 3, none⟩) := ht.dep' 27 64 (by kernel_rfl) rfl
      have hc := (ht.below.cell (p := ⟨w.heap.size, 3, none⟩) (World.block_lt_of_cell? _ _ hL)).trans hL
      exact ⟨.string leaf, w5, by go_simp, Below.refl _ _, rfl⟩
    · refine stepOk_value_guarded 20 57 true rfl (by kernel_rfl) rfl (Nat.le_of_ble_eq_true rfl) (fun w v h => h) fun a w5 ht => ?_
      have e2 : a.tmps[2]?.getD undef = .slice ap m cp := ht.old' 2 (.slice ap m cp) (by kernel_rfl) rfl
      exact ⟨.slice ap m cp, w5, by go_simp, Below.refl _ _, rfl⟩
    · refine stepOk_call_guarded 20 57 true rfl (by kernel_rfl) rfl (Nat.le_of_ble_eq_true rfl) (fun w v h => h) fun a w5 ht => ?_
      have e59 : a.tmps[59]?.getD undef = .string rt := ht.dep' 22 59 (by kernel_rfl) rfl
      have e61 : a.tmps[61]?.getD undef = .int .i64 (n : Int) := ht.dep' 24 61 (by kernel_rfl) rfl
      have e63 : a.tmps[63]?.getD undef = .int .i64 (k : Int) := ht.dep' 26 63 (by kernel_rfl) rfl
      have e65 : a.tmps[65]?.getD undef = .string leaf := ht.dep' 28 65 (by kernel_rfl) rfl
      have e66 : a.tmps[66]?.getD undef = .slice ap m cp := ht.dep' 29 66 (by kernel_rfl) rfl
      refine ⟨18, #[.string rt, .int .i64 (n : Int), .int .i64 (k : Int), .string leaf, .slice ap m cp], by go_simp, (C3.out _ (HB5.out.trans (ht.below.mono HB5.out.size))).mono ?_⟩
      rintro e w' ⟨rfl, hb⟩
      exact ⟨_, rfl, hb, rfl⟩
    · refine stepOk_value rfl fun a w5 ht => ?_
      have e57 : a.tmps[57]?.getD undef = .bool true := ht.dep' 20 57 (by kernel_rfl) rfl
      have e67 : a.tmps[67]?.getD undef = .bool true := ht.dep' 30 67 (by kernel_rfl) rfl
      exact ⟨.bool true, w5, by go_simp, Below.refl _ _, rfl⟩
    · refine stepOk_value rfl fun a w5 ht => ?_
      have e68 : a.tmps[68]?.getD undef = .bool true := ht.dep' 31 68 (by kernel_rfl) rfl
      exact ⟨.bool true, w5, by go_simp, Below.refl _ _, rfl⟩
  case hd =>
    intro vs w8 hl hb8 hvs
    have hl : vs.length = 33 := hl
    obtain ⟨v0, r0, rfl, l0⟩ := uncons vs hl
    obtain ⟨v1, r1, rfl, l1⟩ := uncons r0 l0
    obtain ⟨v2, r2, rfl, l2⟩ := uncons r1 l1
    obtain ⟨v3, r3, rfl, l3⟩ := uncons r2 l2
    obtain ⟨v4, r4, rfl, l4⟩ := uncons r3 l3
    obtain ⟨v5, r5, rfl, l5⟩ := uncons r4 l4
    obtain ⟨v6, r6, rfl, l6⟩ := uncons r5 l5
    obtain ⟨v7, r7, rfl, l7⟩ := uncons r6 l6
    obtain ⟨v8, r8, rfl, l8⟩ := uncons r7 l7
    obtain ⟨v9, r9, rfl, l9⟩ := uncons r8 l8
    obtain ⟨v10, r10, rfl, l10⟩ := uncons r9 l9
    obtain ⟨v11, r11, rfl, l11⟩ := uncons r10 l10
    obtain ⟨v12, r12, rfl, l12⟩ := uncons r11 l11
    obtain ⟨v13, r13, rfl, l13⟩ := uncons r12 l12
    obtain ⟨v14, r14, rfl, l14⟩ := uncons r13 l13
    obtain ⟨v15, r15, rfl, l15⟩ := uncons r14 l14
    obtain ⟨v16, r16, rfl, l16⟩ := uncons r15 l15
    obtain ⟨v17, r17, rfl, l17⟩ := uncons r16 l16
    obtain ⟨v18, r18, rfl, l18⟩ := uncons r17 l17
    obtain ⟨v19, r19, rfl, l19⟩ := uncons r18 l18
    obtain ⟨v20, r20, rfl, l20⟩ := uncons r19 l19
    obtain ⟨v21, r21, rfl, l21⟩ := uncons r20 l20
    obtain ⟨v22, r22, rfl, l22⟩ := uncons r21 l21
    obtain ⟨v23, r23, rfl, l23⟩ := uncons r22 l22
    obtain ⟨v24, r24, rfl, l24⟩ := uncons r23 l23
    obtain ⟨v25, r25, rfl, l25⟩ := uncons r24 l24
    obtain ⟨v26, r26, rfl, l26⟩ := uncons r25 l25
    obtain ⟨v27, r27, rfl, l27⟩ := uncons r26 l26
    obtain ⟨v28, r28, rfl, l28⟩ := uncons r27 l27
    obtain ⟨v29, r29, rfl, l29⟩ := uncons r28 l28
    obtain ⟨v30, r30, rfl, l30⟩ := uncons r29 l29
    obtain ⟨v31, r31, rfl, l31⟩ := uncons r30 l30
    obtain ⟨v32, r32, rfl, l32⟩ := uncons r31 l31
    obtain rfl := List.eq_nil_of_length_eq_zero l32
    have h32 : v32 = .bool true := hvs 32 (by decide)
    subst h32
    clear hvs
    simp only [puts, List.map, go_sem, List.setIfInBounds_toArray, List.set_cons_succ, List.set_cons_zero]
    clear hI hL hC C2 C3
    go_wp2_with fail
    refine (C4.out _ _ (strs_new _ _ _ _ rfl _ rfl)).mono ?_
    rintro e w9 ⟨rfl, hb9⟩
    go_wp2_with fail
    refine (C5.out _ _ (strs_new _ _ _ _ rfl _ rfl)).mono ?_
    rintro e w10 ⟨rfl, hb10⟩
    go_wp2_with fail
    refine (awake38_any _).mono ?_
    rintro e w11 ⟨rfl, hb11⟩
    go_wp2_with fail
    go_ret
    have k8 : Below w.heap.size w w8 := HB5.out.trans (hb8.mono HB5.out.size)
    have k9 : Below w.heap.size w w9 := (k8.alloc k8.size _).trans (hb9.mono (by simp; exact Nat.le_succ_of_le k8.size))
    have k10 : Below w.heap.size w w10 := (k9.alloc k9.size _).trans (hb10.mono (by simp; exact Nat.le_succ_of_le k9.size))
    exact ⟨rfl, k10.trans (hb11.mono k10.size)⟩

set_option maxRecDepth 100000 in
set_option maxHeartbeats 4000000 in
theorem clashW_great (root leaf : ByteArray) (cn i : Int) (b0 : Bool) (ap ao : Option Addr) (m cp n cap : Nat) (w : World) (h : b0 = false ∨ 70 < (m : Int) ∨ 3000 < (leaf.size : Int))
    (C0 : Hid (∀ w', Below w.heap.size w w' → Calls Try.prog 15 #[.slice ao n cap, .int .i64 3000] w' fun e w'' => e = .returned (.bool b0) ∧ w' = w'')) :
    Calls Try.prog 3 #[.slice ao n cap, .agg #[.string root, .int .i64 cn, .int .i64 i, .string leaf], .slice ap m cp] w fun e w' => e = .returned (.bool true) ∧ Below w.heap.size w w' := by
  go_enter Try.func3, Try.ntmps3
  go_upto_region 1 with fail
  refine name_world (fun w3 => w3.cell? ⟨w.heap.size, 2, none⟩ = some (.int .i64 i) ∧ w3.cell? ⟨w.heap.size, 3, none⟩ = some (.string leaf) ∧ Below w.heap.size w w3) ⟨?_, ?_, (Below.refl _ w).alloc (Nat.le_refl _) _⟩ ?_
  · exact cells_new w [.string root, .int .i64 cn, .int .i64 i, .string leaf] _ 2 _ rfl
  · exact cells_new w [.string root, .int .i64 cn, .int .i64 i, .string leaf] _ 3 _ rfl
  rintro w3 ⟨hI3, hL3, hb3⟩
  have HB3 := Lib.hid hb3
  clear hb3
  go_wp2_with fail
  refine (C0.out _ HB3.out).mono ?_
  rintro e w4 ⟨rfl, rfl⟩
  cases b0
  · go_wp2_with fail
    refine (awake38_any _).mono ?_
    rintro e w6 ⟨rfl, hb6⟩
    go_wp2_with fail
    go_ret
    exact ⟨rfl, HB3.out.trans (hb6.mono HB3.out.size)⟩
  · by_cases h1 : 70 < (m : Int)
    · have d1 : decide ((70 : Int) < (m : Int)) = true := decide_eq_true h1
      go_wp2_with fail
      refine (awake38_any _).mono ?_
      rintro e w6 ⟨rfl, hb6⟩
      go_wp2_with fail
      go_ret
      exact ⟨rfl, HB3.out.trans (hb6.mono HB3.out.size)⟩
    · have h2 : 3000 < (leaf.size : Int) := by rcases h with h | h | h; · cases h
                                               · exact absurd h h1
                                               · exact h
      have d1 : decide ((70 : Int) < (m : Int)) = false := decide_eq_false h1
      have d2 : decide ((3000 : Int) < (leaf.size : Int)) = true := decide_eq_true h2
      clear h
      go_wp2_with fail
      refine (awake38_any _).mono ?_
      rintro e w6 ⟨rfl, hb6⟩
      go_wp2_with fail
      go_ret
      exact ⟨rfl, HB3.out.trans (hb6.mono HB3.out.size)⟩

theorem digestClash_walk (ao : Option Addr) (cap : Nat) (l : List ByteArray) (root : ByteArray) (cn i : Int) (leaf : ByteArray) (ap : Option Addr) (cp : Nat) (ps : List ByteArray) (w : World)
    (hf : StrsFit l cap) (hc : StrsAt w ao l) (_ : cap * 16 ≤ 140737488351232) (_ : (-9223372036854775808 ≤ cn ∧ cn ≤ 9223372036854775807) ∧ -9223372036854775808 ≤ i ∧ i ≤ 9223372036854775807)
    (hpf : StrsFit ps cp) (hpc : StrsAt w ap ps) (_ : cp * 16 ≤ 140737488351232) :
    Calls Try.prog 3 #[.slice ao l.length cap, .agg #[.string root, .int .i64 cn, .int .i64 i, .string leaf], .slice ap ps.length cp] w fun e w' => e = .returned (.bool true) ∧ Below w.heap.size w w' := by
  have hcm := hf.2.1
  unfold maxLen at hcm
  have hlc := hf.1
  have C0 : Hid (∀ w', Below w.heap.size w w' → Calls Try.prog 15 #[.slice ao l.length cap, .int .i64 3000] w' fun e w'' => e = .returned (.bool (smallB l 3000)) ∧ w' = w'') :=
    fun w' hb' => small38_det l 3000 (by omega) ao cap w' hf (hc.kept hb' (Nat.le_refl _))
  by_cases hg : smallB l 3000 = false ∨ 70 < (ps.length : Int) ∨ 3000 < (leaf.size : Int)
  · exact clashW_great root leaf cn i _ ap ao ps.length cp l.length cap w hg C0
  · have hb : smallB l 3000 = true := by cases h : smallB l 3000; · exact absurd (Or.inl h) hg
                                         · rfl
    have hm : (ps.length : Int) ≤ 70 := by omega
    have hle : (leaf.size : Int) ≤ 3000 := by omega
    clear hg
    rw [hb] at C0
    obtain ⟨hl, hs⟩ := smallB_leaf hb
    have hok : LeafOk l := fun s h => by have := hs s h; omega
    have hleaf : leaf.size ≤ 1073741824 := by omega
    have CST : Hid (∀ s w, s.size ≤ 1099511627776 → Calls Try.prog 53 #[.string s] w fun e w' => e = .returned (.agg (cel ((fun s : ByteArray => Sha.state s.data.toList) s).list)) ∧ Below w.heap.size w w') :=
      fun s w hs => state_any s hs w
    have C2 : Hid (∀ w', Below w.heap.size w w' → Calls Try.prog 19 #[.slice ao l.length cap] w' fun e w'' => e = .returned (.string (Tre.rootB shaB l)) ∧ Below w'.heap.size w' w'') :=
      fun w' hb' => root_any sum_law l.length l _ l.length cap w' (Nat.le_refl _) rfl hf (hc.kept hb' (Nat.le_refl _)) hok
    have C3 : Hid (∀ w', Below w.heap.size w w' → Calls Try.prog 18 #[.string (Tre.rootB shaB l), .int .i64 (l.length : Int), .int .i64 i, .string leaf, .slice ap ps.length cp] w' fun e w'' => e = .returned (.bool (Tre.provesR shaB (Tre.rootB shaB l) l.length i leaf ps)) ∧ Below w'.heap.size w' w'') :=
      fun w' hb' => proves_any sum_law (Tre.rootB shaB l) (l.length : Int) i (by omega) leaf hleaf ps ap cp w' hpf (hpc.kept hb' (Nat.le_refl _))
    cases hcb : clashB shaB i leaf ps l with
    | false =>
      refine clashW_no root leaf (Tre.rootB shaB l) cn i _ ap ao ps.length cp l.length cap w hle hm C0 ?_ C2 C3 ?_
      · intro w' hb'
        exact clash_any_no sum_law i leaf hleaf ps l ap ao cp cap w' hpf (hpc.kept hb' (Nat.le_refl _)) hf (hc.kept hb' (Nat.le_refl _)) hok hcb
      · intro h0 h1
        obtain ⟨b, off, rfl, hbl, hcell⟩ := hc i.toNat (by omega)
        refine ⟨b, off, _, rfl, hbl, hcell, fun hne => ?_⟩
        unfold clashB at hcb
        rw [decide_eq_true h0, decide_eq_true h1, decide_eq_true hne] at hcb
        simpa using hcb
    | true =>
      have hcb2 := hcb
      unfold clashB at hcb2
      simp only [Bool.and_eq_true, decide_eq_true_eq] at hcb2
      obtain ⟨⟨⟨h0, h1⟩, h2⟩, h3⟩ := hcb2
      obtain ⟨k, rfl⟩ := Int.eq_ofNat_of_zero_le h0
      obtain ⟨b, off, rfl, hbl, hcell⟩ := hc k (by omega)
      rw [h3] at C3
      rw [Int.toNat_natCast] at h2
      refine clashW_yes sum_law root leaf (Tre.rootB shaB l) (l.getD k ByteArray.empty) cn b off k ap ps.length cp l.length cap w hle hm h1 hbl hcell (by rw [bytes_beq]; exact decide_eq_false h2) C0 ?_ C2 C3
      intro w' hb'
      exact clash_any_yes (ST := fun s => Sha.state s.data.toList) sum_law (fun a b h => sha_state h) CST k leaf hleaf ps l ap _ cp cap w' (by omega) hpf (hpc.kept hb' (Nat.le_refl _)) hf (hc.kept hb' (Nat.le_refl _)) hok hcb
end Go.Proofs.Ytbajgpbekanodaa
