/- The walk over pandectlaw38's DigestParts. -/
import Derived.Test.YtbajgpbekanodaaDigSmall
import Derived.Test.YtbajgpbekanodaaRegionC
namespace Go.Proofs.Ytbajgpbekanodaa
open Go.RowKit

set_option maxRecDepth 100000 in
set_option maxHeartbeats 2000000 in
theorem parts_out (s text : ByteArray) (cut : Int) (w : World) (h : 5000 < (s.size : Int) ∨ 5000 < (text.size : Int) ∨ cut < 0 ∨ (s.size : Int) < cut) :
    Calls Try.prog 9 #[.string s, .int .i64 cut, .string text] w fun e w' => e = .returned (.bool true) ∧ Below w.heap.size w w' := by
  by_cases h1 : (5000 : Int) < (s.size : Int)
  · clear h
    go_enter Try.func9, Try.ntmps9
    go_wp2_with fail
    refine (awake38_any _).mono ?_
    rintro e w1 ⟨rfl, hb⟩
    go_wp2_with fail
    go_ret
    exact ⟨rfl, hb⟩
  · by_cases h2 : (5000 : Int) < (text.size : Int)
    · clear h
      go_enter Try.func9, Try.ntmps9
      go_wp2_with fail
      refine (awake38_any _).mono ?_
      rintro e w1 ⟨rfl, hb⟩
      go_wp2_with fail
      go_ret
      exact ⟨rfl, hb⟩
    · by_cases h3 : cut < 0
      · clear h
        go_enter Try.func9, Try.ntmps9
        go_wp2_with fail
        refine (awake38_any _).mono ?_
        rintro e w1 ⟨rfl, hb⟩
        go_wp2_with fail
        go_ret
        exact ⟨rfl, hb⟩
      · have h4 : (s.size : Int) < cut := by omega
        clear h
        go_enter Try.func9, Try.ntmps9
        go_wp2_with fail
        refine (awake38_any _).mono ?_
        rintro e w1 ⟨rfl, hb⟩
        go_wp2_with fail
        go_ret
        exact ⟨rfl, hb⟩
theorem jn_three (s : ByteArray) (c : Nat) : jnB [s.extract 0 c, ByteArray.empty, s.extract c s.size] = s := by
  show ByteArray.empty ++ s.extract 0 c ++ ByteArray.empty ++ s.extract c s.size = s
  apply ByteArray.ext
  apply Array.ext'
  simp
theorem strsAt_drew {w : World} {ao : Option Addr} {ss : List ByteArray} (h : StrsAt w ao ss) : StrsAt w.drew ao ss := h
theorem hexB_size (s : ByteArray) : (hexB s).size = 2 * s.size := by
  unfold hexB
  rw [bytesB_size, hexL_length]
  simp
theorem unhexB_hexB (s : ByteArray) : unhexB (hexB s) = (s, 0) := by
  unfold unhexB hexB
  rw [bytesB_list, unhex_hex]
  simp only
  rw [bytesB_self]
theorem unhexB_size (s : ByteArray) : (unhexB s).1.size ≤ s.size := by
  have : ∀ (l r : List UInt8), unhexL l = some r → r.length ≤ l.length := fun l r h => by
    have := hex_unhex l r h
    rw [← this, hexL_length]; omega
  unfold unhexB
  cases h : unhexL s.data.toList with
  | none => simp
  | some r =>
    have := this _ _ h
    simp only
    rw [bytesB_size]
    simpa using this
theorem hexB_unhexB (s : ByteArray) (h : (unhexB s).2 = 0) : hexB (unhexB s).1 = s := by
  unfold unhexB at *
  cases hr : unhexL s.data.toList with
  | none => rw [hr] at h; simp at h
  | some r =>
    simp only
    unfold hexB
    rw [bytesB_list, hex_unhex _ _ hr, bytesB_self]
theorem unhexB_err (s : ByteArray) (h : (unhexB s).2 ≠ 0) : (unhexB s).2 = 2 := by
  unfold unhexB at *
  cases hr : unhexL s.data.toList with
  | none => rfl
  | some r => rw [hr] at h; exact absurd rfl h

set_option maxRecDepth 100000 in
set_option maxHeartbeats 4000000 in
theorem parts_in {H : ByteArray → ByteArray} (hS : SumLaw H) (s text : ByteArray) (c : Nat) (w : World) (hs : (s.size : Int) ≤ 5000) (ht : (text.size : Int) ≤ 5000) (hcs : (c : Int) ≤ (s.size : Int)) :
    Calls Try.prog 9 #[.string s, .int .i64 (c : Int), .string text] w fun e w' => e = .returned (.bool true) ∧ Below w.heap.size w w' := by
  have C1 := Lib.hid (fun w => hex_any s (by omega) w)
  have C2 := Lib.hid (fun w => unhex_any (hexB s) (by rw [hexB_size]; omega) w)
  rw [unhexB_hexB] at C2
  have C3 := Lib.hid (fun w => unhex_any text (by omega) w)
  have C4 := Lib.hid (fun ao w h => sum_one hS s (by omega) ao w h)
  have C5 := Lib.hid (fun ao w h => hS.2 ao 3 3 [s.extract 0 c, ByteArray.empty, s.extract c s.size] w rfl ⟨by simp, by simp [maxLen], by
    intro t ht; simp at ht; unfold maxLen; rcases ht with rfl | rfl | rfl <;> simp <;> omega⟩ h (by rw [jn_three s c]; omega))
  rw [jn_three s c] at C5
  have C6 := Lib.hid (fun w => hex_any (unhexB text).1 (by have := unhexB_size text; omega) w)
  have hz := hexB_size s
  have hd := hS.1 s
  have he := unhexB_err text
  have hh := hexB_unhexB text
  generalize hexB s = hx at *
  generalize H s = d at *
  generalize unhexB text = r at *
  obtain ⟨t, f⟩ := r
  simp only at he hh C3 C6
  have hz2 : (hx.size : Int) = 2 * (s.size : Int) := by omega
  have hd2 : (d.size : Int) = 32 := by omega
  have hc0 : (0 : Int) ≤ (c : Int) := Int.natCast_nonneg _
  have hz3 : ((hx.size : Int) == 2 * (s.size : Int)) = true := by rw [hz2]; exact beq_self_eq_true _
  have hw2 : IntKind.i64.wrap (2 * (s.size : Int)) = 2 * (s.size : Int) := IntWalk.i64_in _ ⟨by omega, by omega⟩
  have hd3 : ((d.size : Int) == 32) = true := by rw [hd2]; rfl
  have e1 : decide ((5000 : Int) < (s.size : Int)) = false := decide_eq_false (by omega)
  have e2 : decide ((5000 : Int) < (text.size : Int)) = false := decide_eq_false (by omega)
  have e3 : decide ((c : Int) < 0) = false := decide_eq_false (by omega)
  have e4 : decide ((s.size : Int) < (c : Int)) = false := decide_eq_false (by omega)
  clear hz hd hz2 hd2
  by_cases hf : f = 0
  · subst hf
    have hh2 := hh rfl
    rw [hh2] at C6
    clear he hh hh2
    go_enter Try.func9, Try.ntmps9
    go_wp2_with fail
    refine (C1.out _).mono ?_
    rintro e w1 ⟨rfl, hb1⟩
    go_wp2_with fail
    refine (C2.out _).mono ?_
    rintro e w2 ⟨rfl, hb2⟩
    have HB2 := Lib.hid (hb1.trans (hb2.mono hb1.size))
    go_wp2_with fail
    refine (C3.out _).mono ?_
    rintro e w3 ⟨rfl, hb3⟩
    have HB3 := Lib.hid (HB2.out.trans (hb3.mono HB2.out.size))
    go_wp2_with fail
    refine (C4.out _ _ (strs_new _ _ _ _ rfl _ rfl)).mono ?_
    rintro e w4 ⟨rfl, hb4⟩
    have HB4 : Hid (Below w.heap.size w w4) := HB3.out.trans ((((Below.refl _ w3).alloc (Nat.le_refl _) _).trans (hb4.mono (by simp))).mono HB3.out.size)
    clear hb1 hb2 hb3 hb4 HB2 HB3 C1 C2 C3 C4
    go_wp2_with fail
    go_region_held3 (fun w' => True) (trivial)
      (first
        | (go_at_call 20; refine (C5.out _ _ ?hc).mono ?_; (case hc => first | exact strs_new _ _ _ _ rfl _ rfl | exact strsAt_drew (strs_new _ _ _ _ rfl _ rfl)); rintro e w5 ⟨rfl, hb5⟩)
        | (go_at_call 25; refine (C6.out _).mono ?_; rintro e w6 ⟨rfl, hb6⟩)
        | (go_at_call 16; refine (awake38_any _).mono ?_; rintro e w7 ⟨rfl, hb7⟩))
    go_wp2_with fail
    go_ret
    have k5 : Below w4.heap.size w4 w5 := (((Below.refl _ w4).alloc (Nat.le_refl _) _).drew).trans (hb5.mono (by simp))
    have k6 := k5.trans (hb6.mono k5.size)
    have k7 := k6.trans (hb7.mono k6.size)
    exact ⟨rfl, HB4.out.trans (k7.mono HB4.out.size)⟩
  · have h2 : f = 2 := he hf
    subst h2
    clear he hh hf C6
    go_enter Try.func9, Try.ntmps9
    go_wp2_with fail
    refine (C1.out _).mono ?_
    rintro e w1 ⟨rfl, hb1⟩
    go_wp2_with fail
    refine (C2.out _).mono ?_
    rintro e w2 ⟨rfl, hb2⟩
    have HB2 := Lib.hid (hb1.trans (hb2.mono hb1.size))
    go_wp2_with fail
    refine (C3.out _).mono ?_
    rintro e w3 ⟨rfl, hb3⟩
    have HB3 := Lib.hid (HB2.out.trans (hb3.mono HB2.out.size))
    go_wp2_with fail
    refine (C4.out _ _ (strs_new _ _ _ _ rfl _ rfl)).mono ?_
    rintro e w4 ⟨rfl, hb4⟩
    have HB4 : Hid (Below w.heap.size w w4) := HB3.out.trans ((((Below.refl _ w3).alloc (Nat.le_refl _) _).trans (hb4.mono (by simp))).mono HB3.out.size)
    clear hb1 hb2 hb3 hb4 HB2 HB3 C1 C2 C3 C4
    go_wp2_with fail
    refine wp_region_puts (R := fun i w' v => if i = 6 then ∃ ao, v = .slice ao 3 3 ∧ StrsAt w' ao [s.extract 0 c, ByteArray.empty, s.extract c s.size] else v = [Value.string s, .int .i64 (c : Int), .string (s.extract 0 c), .string s, .int .i64 (c : Int), .string (s.extract c s.size), undef, .string d, .string d, .bool true, .bool true, .string d, .int .i64 (d.size : Int), .bool true, .bool true, .bool true, .string s, .string s, .bool true, .bool true, .bool true, .int .i64 0, .bool true, .bool true, .bool true, .string hx, .int .i64 (hx.size : Int), .string s, .int .i64 (s.size : Int), .int .i64 (2 * (s.size : Int)), .bool true, .bool true, .bool true, .int .i64 2, .bool true, .bool true, undef, undef, undef, undef, .bool true, .bool true, .bool true, .bool true, .bool true, .bool true].getD i undef)
      (by kernel_rfl) (by kernel_rfl) (by kernel_rfl) ?hRR (by kernel_rfl) (steps_of ?hs) ?hd
    case hRR =>
      intro i w1 w2 v hb hv
      by_cases h6 : i = 6
      · rw [if_pos h6] at hv ⊢
        obtain ⟨ao, h1, h2⟩ := hv
        exact ⟨ao, h1, h2.below hb⟩
      rw [if_neg h6] at hv ⊢
      exact hv
    case hs =>
      refine ⟨?_, ?_, ?_, ?_, ?_, ?_, ?_, ?_, ?_, ?_, ?_, ?_, ?_, ?_, ?_, ?_, ?_, ?_, ?_, ?_, ?_, ?_, ?_, ?_, ?_, ?_, ?_, ?_, ?_, ?_, ?_, ?_, ?_, ?_, ?_, ?_, ?_, ?_, ?_, ?_, ?_, ?_, ?_, ?_, ?_, ?_, trivial⟩
      · refine stepOk_value rfl fun a w5 ht => ?_
        have e0 : a.tmps[0]?.getD undef = .string s := ht.old' 0 (.string s) (by kernel_rfl) rfl
        exact ⟨Value.string s, w5, by go_simp, Below.refl _ _, rfl⟩
      · refine stepOk_value rfl fun a w5 ht => ?_
        have e1 : a.tmps[1]?.getD undef = .int .i64 (c : Int) := ht.old' 1 (.int .i64 (c : Int)) (by kernel_rfl) rfl
        exact ⟨.int .i64 (c : Int), w5, by go_simp, Below.refl _ _, rfl⟩
      · refine stepOk_value rfl fun a w5 ht => ?_
        have e47 : a.tmps[47]?.getD undef = Value.string s := ht.dep' 0 47 (by kernel_rfl) rfl
        have e48 : a.tmps[48]?.getD undef = .int .i64 (c : Int) := ht.dep' 1 48 (by kernel_rfl) rfl
        exact ⟨.string (s.extract 0 c), w5, by go_simp, Below.refl _ _, rfl⟩
      · refine stepOk_value rfl fun a w5 ht => ?_
        have e0 : a.tmps[0]?.getD undef = .string s := ht.old' 0 (.string s) (by kernel_rfl) rfl
        exact ⟨.string s, w5, by go_simp, Below.refl _ _, rfl⟩
      · refine stepOk_value rfl fun a w5 ht => ?_
        have e1 : a.tmps[1]?.getD undef = .int .i64 (c : Int) := ht.old' 1 (.int .i64 (c : Int)) (by kernel_rfl) rfl
        exact ⟨.int .i64 (c : Int), w5, by go_simp, Below.refl _ _, rfl⟩
      · refine stepOk_value rfl fun a w5 ht => ?_
        have e50 : a.tmps[50]?.getD undef = .string s := ht.dep' 3 50 (by kernel_rfl) rfl
        have e51 : a.tmps[51]?.getD undef = .int .i64 (c : Int) := ht.dep' 4 51 (by kernel_rfl) rfl
        exact ⟨.string (s.extract c s.size), w5, by go_simp, Below.refl _ _, rfl⟩
      · refine stepOk_value rfl fun a w5 ht => ?_
        have e49 : a.tmps[49]?.getD undef = .string (s.extract 0 c) := ht.dep' 2 49 (by kernel_rfl) rfl
        have e52 : a.tmps[52]?.getD undef = .string (s.extract c s.size) := ht.dep' 5 52 (by kernel_rfl) rfl
        refine ⟨.slice (some ⟨w5.heap.size, 0, none⟩) 3 3, w5.alloc (.cells #[.string (s.extract 0 c), .string ByteArray.empty, .string (s.extract c s.size)] 9), ?_, (Below.refl _ _).alloc (Nat.le_refl _) _, ?_⟩
        · go_simp
          rfl
        · exact ⟨_, rfl, strs_new _ _ _ _ rfl _ rfl⟩
      · refine stepOk_call rfl fun a w5 ht => ?_
        have e53 : ∃ ao, a.tmps[53]?.getD undef = .slice ao 3 3 ∧ StrsAt w5 ao [s.extract 0 c, ByteArray.empty, s.extract c s.size] := ht.dep' 6 53 (by kernel_rfl) rfl
        obtain ⟨ao, e53, hst⟩ := e53
        refine ⟨20, #[.slice ao 3 3], by go_simp, (C5.out ao _ hst).mono ?_⟩
        rintro e w' ⟨rfl, hb⟩
        exact ⟨_, rfl, hb, rfl⟩
      · refine stepOk_value rfl fun a w5 ht => ?_
        have e12 : a.tmps[12]?.getD undef = .string d := ht.old' 12 (.string d) (by kernel_rfl) rfl
        exact ⟨.string d, w5, by go_simp, Below.refl _ _, rfl⟩
      · refine stepOk_value rfl fun a w5 ht => ?_
        have e54 : a.tmps[54]?.getD undef = .string d := ht.dep' 7 54 (by kernel_rfl) rfl
        have e55 : a.tmps[55]?.getD undef = .string d := ht.dep' 8 55 (by kernel_rfl) rfl
        exact ⟨.bool true, w5, by go_simp, Below.refl _ _, rfl⟩
      · refine stepOk_value rfl fun a w5 ht => ?_
        have e56 : a.tmps[56]?.getD undef = .bool true := ht.dep' 9 56 (by kernel_rfl) rfl
        exact ⟨.bool true, w5, by go_simp, Below.refl _ _, rfl⟩
      · refine stepOk_value_guarded 10 57 true rfl (by kernel_rfl) rfl (Nat.le_of_ble_eq_true rfl) (fun w v h => h) fun a w5 ht => ?_
        have e12 : a.tmps[12]?.getD undef = .string d := ht.old' 12 (.string d) (by kernel_rfl) rfl
        exact ⟨.string d, w5, by go_simp, Below.refl _ _, rfl⟩
      · refine stepOk_value_guarded 10 57 true rfl (by kernel_rfl) rfl (Nat.le_of_ble_eq_true rfl) (fun w v h => h) fun a w5 ht => ?_
        have e58 : a.tmps[58]?.getD undef = .string d := ht.dep' 11 58 (by kernel_rfl) rfl
        exact ⟨.int .i64 (d.size : Int), w5, by go_simp, Below.refl _ _, rfl⟩
      · refine stepOk_value_guarded 10 57 true rfl (by kernel_rfl) rfl (Nat.le_of_ble_eq_true rfl) (fun w v h => h) fun a w5 ht => ?_
        have e59 : a.tmps[59]?.getD undef = .int .i64 (d.size : Int) := ht.dep' 12 59 (by kernel_rfl) rfl
        exact ⟨.bool true, w5, by go_simp, Below.refl _ _, rfl⟩
      · refine stepOk_value rfl fun a w5 ht => ?_
        have e57 : a.tmps[57]?.getD undef = .bool true := ht.dep' 10 57 (by kernel_rfl) rfl
        have e60 : a.tmps[60]?.getD undef = .bool true := ht.dep' 13 60 (by kernel_rfl) rfl
        exact ⟨.bool true, w5, by go_simp, Below.refl _ _, rfl⟩
      · refine stepOk_value rfl fun a w5 ht => ?_
        have e61 : a.tmps[61]?.getD undef = .bool true := ht.dep' 14 61 (by kernel_rfl) rfl
        exact ⟨.bool true, w5, by go_simp, Below.refl _ _, rfl⟩
      · refine stepOk_value_guarded 15 62 true rfl (by kernel_rfl) rfl (Nat.le_of_ble_eq_true rfl) (fun w v h => h) fun a w5 ht => ?_
        have e8 : a.tmps[8]?.getD undef = .string s := ht.old' 8 (.string s) (by kernel_rfl) rfl
        exact ⟨.string s, w5, by go_simp, Below.refl _ _, rfl⟩
      · refine stepOk_value_guarded 15 62 true rfl (by kernel_rfl) rfl (Nat.le_of_ble_eq_true rfl) (fun w v h => h) fun a w5 ht => ?_
        have e0 : a.tmps[0]?.getD undef = .string s := ht.old' 0 (.string s) (by kernel_rfl) rfl
        exact ⟨.string s, w5, by go_simp, Below.refl _ _, rfl⟩
      · refine stepOk_value_guarded 15 62 true rfl (by kernel_rfl) rfl (Nat.le_of_ble_eq_true rfl) (fun w v h => h) fun a w5 ht => ?_
        have e63 : a.tmps[63]?.getD undef = .string s := ht.dep' 16 63 (by kernel_rfl) rfl
        have e64 : a.tmps[64]?.getD undef = .string s := ht.dep' 17 64 (by kernel_rfl) rfl
        exact ⟨.bool true, w5, by go_simp, Below.refl _ _, rfl⟩
      · refine stepOk_value rfl fun a w5 ht => ?_
        have e62 : a.tmps[62]?.getD undef = .bool true := ht.dep' 15 62 (by kernel_rfl) rfl
        have e65 : a.tmps[65]?.getD undef = .bool true := ht.dep' 18 65 (by kernel_rfl) rfl
        exact ⟨.bool true, w5, by go_simp, Below.refl _ _, rfl⟩
      · refine stepOk_value rfl fun a w5 ht => ?_
        have e66 : a.tmps[66]?.getD undef = .bool true := ht.dep' 19 66 (by kernel_rfl) rfl
        exact ⟨.bool true, w5, by go_simp, Below.refl _ _, rfl⟩
      · refine stepOk_value_guarded 20 67 true rfl (by kernel_rfl) rfl (Nat.le_of_ble_eq_true rfl) (fun w v h => h) fun a w5 ht => ?_
        have e9 : a.tmps[9]?.getD undef = .int .i64 0 := ht.old' 9 (.int .i64 0) (by kernel_rfl) rfl
        exact ⟨.int .i64 0, w5, by go_simp, Below.refl _ _, rfl⟩
      · refine stepOk_value_guarded 20 67 true rfl (by kernel_rfl) rfl (Nat.le_of_ble_eq_true rfl) (fun w v h => h) fun a w5 ht => ?_
        have e68 : a.tmps[68]?.getD undef = .int .i64 0 := ht.dep' 21 68 (by kernel_rfl) rfl
        exact ⟨.bool true, w5, by go_simp, Below.refl _ _, rfl⟩
      · refine stepOk_value rfl fun a w5 ht => ?_
        have e67 : a.tmps[67]?.getD undef = .bool true := ht.dep' 20 67 (by kernel_rfl) rfl
        have e69 : a.tmps[69]?.getD undef = .bool true := ht.dep' 22 69 (by kernel_rfl) rfl
        exact ⟨.bool true, w5, by go_simp, Below.refl _ _, rfl⟩
      · refine stepOk_value rfl fun a w5 ht => ?_
        have e70 : a.tmps[70]?.getD undef = .bool true := ht.dep' 23 70 (by kernel_rfl) rfl
        exact ⟨.bool true, w5, by go_simp, Below.refl _ _, rfl⟩
      · refine stepOk_value_guarded 24 71 true rfl (by kernel_rfl) rfl (Nat.le_of_ble_eq_true rfl) (fun w v h => h) fun a w5 ht => ?_
        have e7 : a.tmps[7]?.getD undef = .string hx := ht.old' 7 (.string hx) (by kernel_rfl) rfl
        exact ⟨.string hx, w5, by go_simp, Below.refl _ _, rfl⟩
      · refine stepOk_value_guarded 24 71 true rfl (by kernel_rfl) rfl (Nat.le_of_ble_eq_true rfl) (fun w v h => h) fun a w5 ht => ?_
        have e72 : a.tmps[72]?.getD undef = .string hx := ht.dep' 25 72 (by kernel_rfl) rfl
        exact ⟨.int .i64 (hx.size : Int), w5, by go_simp, Below.refl _ _, rfl⟩
      · refine stepOk_value_guarded 24 71 true rfl (by kernel_rfl) rfl (Nat.le_of_ble_eq_true rfl) (fun w v h => h) fun a w5 ht => ?_
        have e0 : a.tmps[0]?.getD undef = .string s := ht.old' 0 (.string s) (by kernel_rfl) rfl
        exact ⟨.string s, w5, by go_simp, Below.refl _ _, rfl⟩
      · refine stepOk_value_guarded 24 71 true rfl (by kernel_rfl) rfl (Nat.le_of_ble_eq_true rfl) (fun w v h => h) fun a w5 ht => ?_
        have e74 : a.tmps[74]?.getD undef = .string s := ht.dep' 27 74 (by kernel_rfl) rfl
        exact ⟨.int .i64 (s.size : Int), w5, by go_simp, Below.refl _ _, rfl⟩
      · refine stepOk_value_guarded 24 71 true rfl (by kernel_rfl) rfl (Nat.le_of_ble_eq_true rfl) (fun w v h => h) fun a w5 ht => ?_
        have e75 : a.tmps[75]?.getD undef = .int .i64 (s.size : Int) := ht.dep' 28 75 (by kernel_rfl) rfl
        exact ⟨.int .i64 (2 * (s.size : Int)), w5, by go_simp, Below.refl _ _, rfl⟩
      · refine stepOk_value_guarded 24 71 true rfl (by kernel_rfl) rfl (Nat.le_of_ble_eq_true rfl) (fun w v h => h) fun a w5 ht => ?_
        have e73 : a.tmps[73]?.getD undef = .int .i64 (hx.size : Int) := ht.dep' 26 73 (by kernel_rfl) rfl
        have e76 : a.tmps[76]?.getD undef = .int .i64 (2 * (s.size : Int)) := ht.dep' 29 76 (by kernel_rfl) rfl
        exact ⟨.bool true, w5, by go_simp, Below.refl _ _, rfl⟩
      · refine stepOk_value rfl fun a w5 ht => ?_
        have e71 : a.tmps[71]?.getD undef = .bool true := ht.dep' 24 71 (by kernel_rfl) rfl
        have e77 : a.tmps[77]?.getD undef = .bool true := ht.dep' 30 77 (by kernel_rfl) rfl
        exact ⟨.bool true, w5, by go_simp, Below.refl _ _, rfl⟩
      · refine stepOk_value rfl fun a w5 ht => ?_
        have e78 : a.tmps[78]?.getD undef = .bool true := ht.dep' 31 78 (by kernel_rfl) rfl
        exact ⟨.bool true, w5, by go_simp, Below.refl _ _, rfl⟩
      · refine stepOk_value_guarded 32 79 true rfl (by kernel_rfl) rfl (Nat.le_of_ble_eq_true rfl) (fun w v h => h) fun a w5 ht => ?_
        have e11 : a.tmps[11]?.getD undef = .int .i64 2 := ht.old' 11 (.int .i64 2) (by kernel_rfl) rfl
        exact ⟨.int .i64 2, w5, by go_simp, Below.refl _ _, rfl⟩
      · refine stepOk_value_guarded 32 79 true rfl (by kernel_rfl) rfl (Nat.le_of_ble_eq_true rfl) (fun w v h => h) fun a w5 ht => ?_
        have e80 : a.tmps[80]?.getD undef = .int .i64 2 := ht.dep' 33 80 (by kernel_rfl) rfl
        exact ⟨.bool true, w5, by go_simp, Below.refl _ _, rfl⟩
      · refine stepOk_value_guarded 32 79 true rfl (by kernel_rfl) rfl (Nat.le_of_ble_eq_true rfl) (fun w v h => h) fun a w5 ht => ?_
        have e81 : a.tmps[81]?.getD undef = .bool true := ht.dep' 34 81 (by kernel_rfl) rfl
        exact ⟨.bool true, w5, by go_simp, Below.refl _ _, rfl⟩
      · exact stepOk_skip 35 82 false true rfl (by decide) (by kernel_rfl) rfl (Nat.le_of_ble_eq_true rfl) (fun w v h => h) (fun w => rfl)
      · exact stepOk_skip 35 82 false true rfl (by decide) (by kernel_rfl) rfl (Nat.le_of_ble_eq_true rfl) (fun w v h => h) (fun w => rfl)
      · exact stepOk_skip 35 82 false true rfl (by decide) (by kernel_rfl) rfl (Nat.le_of_ble_eq_true rfl) (fun w v h => h) (fun w => rfl)
      · exact stepOk_skip 35 82 false true rfl (by decide) (by kernel_rfl) rfl (Nat.le_of_ble_eq_true rfl) (fun w v h => h) (fun w => rfl)
      · refine stepOk_value_guarded 32 79 true rfl (by kernel_rfl) rfl (Nat.le_of_ble_eq_true rfl) (fun w v h => h) fun a w5 ht => ?_
        have e82 : a.tmps[82]?.getD undef = .bool true := ht.dep' 35 82 (by kernel_rfl) rfl
        exact ⟨.bool true, w5, by go_simp, Below.refl _ _, rfl⟩
      · refine stepOk_value rfl fun a w5 ht => ?_
        have e79 : a.tmps[79]?.getD undef = .bool true := ht.dep' 32 79 (by kernel_rfl) rfl
        have e87 : a.tmps[87]?.getD undef = .bool true := ht.dep' 40 87 (by kernel_rfl) rfl
        exact ⟨.bool true, w5, by go_simp, Below.refl _ _, rfl⟩
      · refine stepOk_value rfl fun a w5 ht => ?_
        have e88 : a.tmps[88]?.getD undef = .bool true := ht.dep' 41 88 (by kernel_rfl) rfl
        exact ⟨.bool true, w5, by go_simp, Below.refl _ _, rfl⟩
      · refine stepOk_call_guarded 42 89 true rfl (by kernel_rfl) rfl (Nat.le_of_ble_eq_true rfl) (fun w v h => h) fun a w5 ht => ?_
        refine ⟨16, #[], by go_simp, (awake38_any _).mono ?_⟩
        rintro e w' ⟨rfl, hb⟩
        exact ⟨_, rfl, hb, rfl⟩
      · refine stepOk_value rfl fun a w5 ht => ?_
        have e89 : a.tmps[89]?.getD undef = .bool true := ht.dep' 42 89 (by kernel_rfl) rfl
        have e90 : a.tmps[90]?.getD undef = .bool true := ht.dep' 43 90 (by kernel_rfl) rfl
        exact ⟨.bool true, w5, by go_simp, Below.refl _ _, rfl⟩
      · refine stepOk_value rfl fun a w5 ht => ?_
        have e91 : a.tmps[91]?.getD undef = .bool true := ht.dep' 44 91 (by kernel_rfl) rfl
        exact ⟨.bool true, w5, by go_simp, Below.refl _ _, rfl⟩
    case hd =>
      intro vs w8 hl hb8 hvs
      have hl : vs.length = 46 := hl
      obtain ⟨v0, r0, rfl, l0⟩ := uncons vs hl
      obtain ⟨v1, r1, rfl, l1⟩ := uncons r0 l0
      obtain ⟨v2, r2, rfl, l2⟩ := uncons r1 l1
      obtain ⟨v3, r3, rfl, l3⟩ := uncons r2 l2
      obtain ⟨v4, r4, rfl, l4⟩ := uncons r3 l3
      obtain ⟨v5, r5, rfl, l5⟩ := uncons r4 l4
      obtain ⟨v6, r6, rfl, l6⟩ := uncons r5 l5
      obtain ⟨v7, r7, rfl, l7⟩ := uncons r6 l6
      obtain ⟨v8, r8, rfl, l8⟩ := uncons r7 l7
      obtain ⟨v9, r9, rfl, l9⟩ := uncons r8 l8
      obtain ⟨v10, r10, rfl, l10⟩ := uncons r9 l9
      obtain ⟨v11, r11, rfl, l11⟩ := uncons r10 l10
      obtain ⟨v12, r12, rfl, l12⟩ := uncons r11 l11
      obtain ⟨v13, r13, rfl, l13⟩ := uncons r12 l12
      obtain ⟨v14, r14, rfl, l14⟩ := uncons r13 l13
      obtain ⟨v15, r15, rfl, l15⟩ := uncons r14 l14
      obtain ⟨v16, r16, rfl, l16⟩ := uncons r15 l15
      obtain ⟨v17, r17, rfl, l17⟩ := uncons r16 l16
      obtain ⟨v18, r18, rfl, l18⟩ := uncons r17 l17
      obtain ⟨v19, r19, rfl, l19⟩ := uncons r18 l18
      obtain ⟨v20, r20, rfl, l20⟩ := uncons r19 l19
      obtain ⟨v21, r21, rfl, l21⟩ := uncons r20 l20
      obtain ⟨v22, r22, rfl, l22⟩ := uncons r21 l21
      obtain ⟨v23, r23, rfl, l23⟩ := uncons r22 l22
      obtain ⟨v24, r24, rfl, l24⟩ := uncons r23 l23
      obtain ⟨v25, r25, rfl, l25⟩ := uncons r24 l24
      obtain ⟨v26, r26, rfl, l26⟩ := uncons r25 l25
      obtain ⟨v27, r27, rfl, l27⟩ := uncons r26 l26
      obtain ⟨v28, r28, rfl, l28⟩ := uncons r27 l27
      obtain ⟨v29, r29, rfl, l29⟩ := uncons r28 l28
      obtain ⟨v30, r30, rfl, l30⟩ := uncons r29 l29
      obtain ⟨v31, r31, rfl, l31⟩ := uncons r30 l30
      obtain ⟨v32, r32, rfl, l32⟩ := uncons r31 l31
      obtain ⟨v33, r33, rfl, l33⟩ := uncons r32 l32
      obtain ⟨v34, r34, rfl, l34⟩ := uncons r33 l33
      obtain ⟨v35, r35, rfl, l35⟩ := uncons r34 l34
      obtain ⟨v36, r36, rfl, l36⟩ := uncons r35 l35
      obtain ⟨v37, r37, rfl, l37⟩ := uncons r36 l36
      obtain ⟨v38, r38, rfl, l38⟩ := uncons r37 l37
      obtain ⟨v39, r39, rfl, l39⟩ := uncons r38 l38
      obtain ⟨v40, r40, rfl, l40⟩ := uncons r39 l39
      obtain ⟨v41, r41, rfl, l41⟩ := uncons r40 l40
      obtain ⟨v42, r42, rfl, l42⟩ := uncons r41 l41
      obtain ⟨v43, r43, rfl, l43⟩ := uncons r42 l42
      obtain ⟨v44, r44, rfl, l44⟩ := uncons r43 l43
      obtain ⟨v45, r45, rfl, l45⟩ := uncons r44 l44
      obtain rfl := List.eq_nil_of_length_eq_zero l45
      have h45 : v45 = .bool true := hvs 45 (by decide)
      subst h45
      clear hvs
      simp only [puts, List.map, go_sem, List.setIfInBounds_toArray, List.set_cons_succ, List.set_cons_zero]
      go_wp2_with fail
      go_ret
      exact ⟨rfl, HB4.out.trans (hb8.mono HB4.out.size)⟩

theorem digestParts_walk (s : ByteArray) (cut : Int) (text : ByteArray) (w : World) (_ : s.size ≤ 140737488351232) (_ : -9223372036854775808 ≤ cut ∧ cut ≤ 9223372036854775807) (_ : text.size ≤ 140737488351232) :
    Calls Try.prog 9 #[.string s, .int .i64 cut, .string text] w fun e w' => e = .returned (.bool true) ∧ Below w.heap.size w w' := by
  by_cases h : 5000 < (s.size : Int) ∨ 5000 < (text.size : Int) ∨ cut < 0 ∨ (s.size : Int) < cut
  · exact parts_out s text cut w h
  · obtain ⟨c, rfl⟩ := Int.eq_ofNat_of_zero_le (show 0 ≤ cut by omega)
    exact parts_in sum_law s text c w (by omega) (by omega) (by omega)
end Go.Proofs.Ytbajgpbekanodaa
