/- The walks over frame.Take and the document's Take: what each call returns. Condition: the text is at most 2^46 bytes. -/
import Derived.Test.YtbhadaiijcdlkaaFrmNum
import Derived.Test.YtbhadaiijcdlkaaOctTexts
namespace Go.Proofs.Ytbhadaiijcdlkaa
open Go.RowKit

set_option maxRecDepth 100000 in
set_option maxHeartbeats 2000000 in
theorem frameTake_last (s t x : ByteArray) (P q : Nat) (w : World) (hs : (s.size : Int) ≤ 9223372036854775807) (hPq : (P : Int) ≤ (q : Int)) (hq : (q : Int) ≤ (s.size : Int)) (h4 : ¬ (s.size : Int) - (q : Int) < 4) (ht : ¬ (20000 : Int) < (t.size : Int))
    (C1 : Hid (∀ w, Calls Try.prog 23 #[.string s, .int .i64 (P : Int)] w fun e w' => e = .returned (tripT (t, q, 0)) ∧ Below w.heap.size w w'))
    (C2 : Hid (∀ w, Calls Try.prog 20 #[.string (s.extract P q)] w fun e w' => e = .returned (.string x) ∧ Below w.heap.size w w'))
    (B : Bool) (hB : (!(x.toList == (s.extract q (q + 4)).toList)) = B) (r : ByteArray × Nat × Nat) (hr : r = if B = true then (ByteArray.empty, 0, 200) else (t, q + 4, 0)) :
    Calls Try.prog 13 #[.string s, .int .i64 (P : Int)] w fun e w' => e = .returned (tripT r) ∧ Below w.heap.size w w' := by
  have HR := Lib.hid hr
  have HB := Lib.hid hB
  clear hr hB
  unfold tripT at C1
  simp only at C1
  have hq4 : (q : Int) + 4 ≤ (s.size : Int) := by omega
  go_enter Try.func13, Try.ntmps13
  go_wp2_with fail
  refine (C1.out _).mono ?_
  rintro e w1 ⟨rfl, hb1⟩
  go_wp2_with fail
  refine wp_region_vals (vals := [.string s, .int .i64 (P : Int), .int .i64 (q : Int), .string (s.extract P q), .string x, .string s, .int .i64 (q : Int), .int .i64 (q : Int), .int .i64 ((q : Int) + 4), .string (s.extract q (q + 4)), .bool B, .bool B])
    (by kernel_rfl) (by kernel_rfl) (by kernel_rfl) rfl (by kernel_rfl) (steps_of ?hs) ?hd
  case hs =>
    refine ⟨?_, ?_, ?_, ?_, ?_, ?_, ?_, ?_, ?_, ?_, ?_, ?_, trivial⟩
    · refine stepOk_value rfl fun a w ht => ?_
      have e1 := ht.old' 0 (.string s) (by kernel_rfl) rfl
      exact ⟨_, w, by go_simp, Below.refl _ _, rfl⟩
    · refine stepOk_value rfl fun a w ht => ?_
      have e1 := ht.old' 1 (.int .i64 (P : Int)) (by kernel_rfl) rfl
      exact ⟨_, w, by go_simp, Below.refl _ _, rfl⟩
    · refine stepOk_value rfl fun a w ht => ?_
      have e1 := ht.old' 8 (.int .i64 (q : Int)) (by kernel_rfl) rfl
      exact ⟨_, w, by go_simp, Below.refl _ _, rfl⟩
    · refine stepOk_value rfl fun a w ht => ?_
      have e1 : a.tmps[32]?.getD undef = .string s := ht.dep' 0 32 (by kernel_rfl) rfl
      have e2 : a.tmps[33]?.getD undef = .int .i64 (P : Int) := ht.dep' 1 33 (by kernel_rfl) rfl
      have e3 : a.tmps[34]?.getD undef = .int .i64 (q : Int) := ht.dep' 2 34 (by kernel_rfl) rfl
      refine ⟨.string (s.extract P q), w, ?_, Below.refl _ _, rfl⟩
      go_simp
    · refine stepOk_call rfl fun a w ht => ?_
      have e1 : a.tmps[35]?.getD undef = .string (s.extract P q) := ht.dep' 3 35 (by kernel_rfl) rfl
      refine ⟨20, #[.string (s.extract P q)], by go_simp, (C2.out _).mono ?_⟩
      rintro e w' ⟨rfl, hb⟩
      exact ⟨_, rfl, hb, rfl⟩
    · refine stepOk_value rfl fun a w ht => ?_
      have e1 := ht.old' 0 (.string s) (by kernel_rfl) rfl
      exact ⟨_, w, by go_simp, Below.refl _ _, rfl⟩
    · refine stepOk_value rfl fun a w ht => ?_
      have e1 := ht.old' 8 (.int .i64 (q : Int)) (by kernel_rfl) rfl
      exact ⟨_, w, by go_simp, Below.refl _ _, rfl⟩
    · refine stepOk_value rfl fun a w ht => ?_
      have e1 := ht.old' 8 (.int .i64 (q : Int)) (by kernel_rfl) rfl
      exact ⟨_, w, by go_simp, Below.refl _ _, rfl⟩
    · refine stepOk_value rfl fun a w ht => ?_
      have e1 : a.tmps[39]?.getD undef = .int .i64 (q : Int) := ht.dep' 7 39 (by kernel_rfl) rfl
      refine ⟨.int .i64 ((q : Int) + 4), w, ?_, Below.refl _ _, rfl⟩
      go_simp
      exact IntWalk.i64_in _ ⟨by omega, by omega⟩
    · refine stepOk_value rfl fun a w ht => ?_
      have e1 : a.tmps[37]?.getD undef = .string s := ht.dep' 5 37 (by kernel_rfl) rfl
      have e2 : a.tmps[38]?.getD undef = .int .i64 (q : Int) := ht.dep' 6 38 (by kernel_rfl) rfl
      have e3 : a.tmps[40]?.getD undef = .int .i64 ((q : Int) + 4) := ht.dep' 8 40 (by kernel_rfl) rfl
      have g0 : 0 ≤ (q : Int) + 4 := by omega
      have g1 : (q : Int) ≤ (q : Int) + 4 := by omega
      have g2 : ((q : Int) + 4).toNat = q + 4 := by omega
      refine ⟨.string (s.extract q (q + 4)), w, ?_, Below.refl _ _, rfl⟩
      go_simp
    · refine stepOk_value rfl fun a w ht => ?_
      have e1 : a.tmps[36]?.getD undef = .string x := ht.dep' 4 36 (by kernel_rfl) rfl
      have e2 : a.tmps[41]?.getD undef = .string (s.extract q (q + 4)) := ht.dep' 9 41 (by kernel_rfl) rfl
      have e3 := HB.out
      refine ⟨.bool B, w, ?_, Below.refl _ _, rfl⟩
      rw [← e3]
      clear e3
      go_simp
    · refine stepOk_value rfl fun a w ht => ?_
      have e1 : a.tmps[42]?.getD undef = .bool B := ht.dep' 10 42 (by kernel_rfl) rfl
      exact ⟨_, w, by go_simp, Below.refl _ _, rfl⟩
  case hd =>
    intro w2 hb2
    have hb3 := hb1.trans (hb2.mono hb1.size)
    cases B
    · have HR3 : Hid (r = (t, q + 4, 0)) := HR.out
      clear HB HR
      simp only [puts, List.map, go_sem, List.setIfInBounds_toArray, List.set_cons_succ, List.set_cons_zero]
      go_wp2_with fail
      go_ret3
      exact ⟨by rw [HR3.out]; rfl, hb3⟩
    · have HR3 : Hid (r = (ByteArray.empty, 0, 200)) := HR.out
      clear HB HR
      simp only [puts, List.map, go_sem, List.setIfInBounds_toArray, List.set_cons_succ, List.set_cons_zero]
      go_wp2_with fail
      go_ret3
      exact ⟨by rw [HR3.out]; rfl, hb3⟩

/-- frame.Take takes what the mathematics says. -/
theorem frameTake_any (s : ByteArray) (p : Int) (w : World) (hs : s.size ≤ 70368744177664) :
    Calls Try.prog 13 #[.string s, .int .i64 p] w fun e w' => e = .returned (tripT (Frm.ftB s p)) ∧ Below w.heap.size w w' := by
  have hs' : s.size ≤ maxLen := by unfold maxLen; omega
  have hs2 : (s.size : Int) ≤ 9223372036854775807 := by omega
  have C1 := Lib.hid (fun w => takeText_any s p w hs')
  have hle := Oct.ttB_le s p
  obtain ⟨r, hr⟩ : ∃ r, r = Frm.ftB s p := ⟨_, rfl⟩
  rw [← hr]
  unfold Frm.ftB at hr
  simp only at hr
  cases hx : Oct.ttB s p with
  | mk t y =>
  obtain ⟨q, e⟩ := y
  rw [hx] at hr hle C1
  simp only at hr hle
  by_cases he : (e : Int) = 0
  · obtain rfl : e = 0 := by omega
    obtain ⟨P, rfl, h1, h2, h3, h4⟩ := Oct.ttB_form hx
    rw [if_neg (by simp)] at hr
    by_cases ht : (20000 : Int) < (t.size : Int)
    · rw [if_pos (by omega)] at hr
      have HR := Lib.hid hr
      clear hr hx h4 hle
      unfold tripT at C1
      simp only at C1
      go_enter Try.func13, Try.ntmps13
      go_wp2_with fail
      refine (C1.out _).mono ?_
      rintro e w1 ⟨rfl, hb1⟩
      go_wp2_with fail
      go_ret3
      exact ⟨by rw [HR.out]; rfl, hb1⟩
    · rw [if_neg (by omega)] at hr
      by_cases hl : (s.size : Int) - (q : Int) < 4
      · rw [if_pos (by omega)] at hr
        have HR := Lib.hid hr
        clear hr hx h4 hle
        unfold tripT at C1
        simp only at C1
        go_enter Try.func13, Try.ntmps13
        go_wp2_with fail
        refine (C1.out _).mono ?_
        rintro e w1 ⟨rfl, hb1⟩
        go_wp2_with fail
        go_ret3
        exact ⟨by rw [HR.out]; rfl, hb1⟩
      · rw [if_neg (by omega)] at hr
        have hC2 := fun w => frameSum_any (s.extract P q) (by rw [ByteArray.size_extract]; unfold maxLen; omega) w
        rw [← h4] at hC2
        refine frameTake_last s t (Frm.sumB (Oct.textB t)) P q w hs2 (by omega) (by omega) hl ht C1 (by rw [← h4]; exact Lib.hid hC2) _ rfl r ?_
        rw [hr]
        by_cases hc : Frm.sumB (Oct.textB t) = s.extract q (q + 4)
        · rw [if_neg (by simp [hc]), if_neg (by simp [hc])]
        · have hne : ¬ (Frm.sumB (Oct.textB t)).toList = (s.extract q (q + 4)).toList := by
            intro h
            rw [ByteArray.toList_eq, ByteArray.toList_eq] at h
            exact hc (ByteArray.ext (Array.toList_inj.1 h))
          rw [if_pos hc, if_pos (by simp [hne])]
  · rw [if_pos (by simp; omega)] at hr
    have HR := Lib.hid hr
    clear hr hx hle
    unfold tripT at C1
    simp only at C1
    go_enter Try.func13, Try.ntmps13
    go_wp2_with fail
    refine (C1.out _).mono ?_
    rintro e w1 ⟨rfl, hb1⟩
    go_wp2_with fail
    go_ret3
    exact ⟨by rw [HR.out]; rfl, hb1⟩

set_option maxRecDepth 100000 in
set_option maxHeartbeats 2000000 in
theorem refFTake_last (s t x : ByteArray) (P q : Nat) (w : World) (hs : (s.size : Int) ≤ 9223372036854775807) (hPq : (P : Int) ≤ (q : Int)) (_ : (q : Int) ≤ (s.size : Int)) (h4 : ¬ (s.size : Int) - (q : Int) < 4) (ht : ¬ (20000 : Int) < (t.size : Int))
    (C1 : Hid (∀ w, Calls Try.prog 24 #[.string s, .int .i64 (P : Int)] w fun e w' => e = .returned (tripT (t, q, 0)) ∧ Below w.heap.size w w'))
    (C2 : Hid (∀ w, Calls Try.prog 22 #[.string t] w fun e w' => e = .returned (.string x) ∧ Below w.heap.size w w'))
    (B : Bool) (hB : (!((s.extract P (q + 4)).toList == x.toList)) = B) (r : ByteArray × Nat × Nat) (hr : r = if B = true then (ByteArray.empty, 0, 200) else (t, q + 4, 0)) :
    Calls Try.prog 14 #[.string s, .int .i64 (P : Int)] w fun e w' => e = .returned (tripT r) ∧ Below w.heap.size w w' := by
  have HR := Lib.hid hr
  have HB := Lib.hid hB
  clear hr hB
  unfold tripT at C1
  simp only at C1
  have hq4 : (q : Int) + 4 ≤ (s.size : Int) := by omega
  have hP4 : (P : Int) ≤ (q : Int) + 4 := by omega
  go_enter Try.func14, Try.ntmps14
  go_wp2_with fail
  refine (C1.out _).mono ?_
  rintro e w1 ⟨rfl, hb1⟩
  go_wp2_with fail
  refine wp_region_vals (vals := [.string s, .int .i64 (P : Int), .int .i64 (q : Int), .int .i64 ((q : Int) + 4), .string (s.extract P (q + 4)), .string t, .string x, .bool B])
    (by kernel_rfl) (by kernel_rfl) (by kernel_rfl) rfl (by kernel_rfl) (steps_of ?hs) ?hd
  case hs =>
    refine ⟨?_, ?_, ?_, ?_, ?_, ?_, ?_, ?_, trivial⟩
    · refine stepOk_value rfl fun a w ht => ?_
      have e1 := ht.old' 0 (.string s) (by kernel_rfl) rfl
      exact ⟨_, w, by go_simp, Below.refl _ _, rfl⟩
    · refine stepOk_value rfl fun a w ht => ?_
      have e1 := ht.old' 1 (.int .i64 (P : Int)) (by kernel_rfl) rfl
      exact ⟨_, w, by go_simp, Below.refl _ _, rfl⟩
    · refine stepOk_value rfl fun a w ht => ?_
      have e1 := ht.old' 8 (.int .i64 (q : Int)) (by kernel_rfl) rfl
      exact ⟨_, w, by go_simp, Below.refl _ _, rfl⟩
    · refine stepOk_value rfl fun a w ht => ?_
      have e1 : a.tmps[30]?.getD undef = .int .i64 (q : Int) := ht.dep' 2 30 (by kernel_rfl) rfl
      refine ⟨.int .i64 ((q : Int) + 4), w, ?_, Below.refl _ _, rfl⟩
      go_simp
      exact IntWalk.i64_in _ ⟨by omega, by omega⟩
    · refine stepOk_value rfl fun a w ht => ?_
      have e1 : a.tmps[28]?.getD undef = .string s := ht.dep' 0 28 (by kernel_rfl) rfl
      have e2 : a.tmps[29]?.getD undef = .int .i64 (P : Int) := ht.dep' 1 29 (by kernel_rfl) rfl
      have e3 : a.tmps[31]?.getD undef = .int .i64 ((q : Int) + 4) := ht.dep' 3 31 (by kernel_rfl) rfl
      have g2 : ((q : Int) + 4).toNat = q + 4 := by omega
      refine ⟨.string (s.extract P (q + 4)), w, ?_, Below.refl _ _, rfl⟩
      go_simp
    · refine stepOk_value rfl fun a w ht => ?_
      have e1 := ht.old' 7 (.string t) (by kernel_rfl) rfl
      exact ⟨_, w, by go_simp, Below.refl _ _, rfl⟩
    · refine stepOk_call rfl fun a w ht => ?_
      have e1 : a.tmps[33]?.getD undef = .string t := ht.dep' 5 33 (by kernel_rfl) rfl
      refine ⟨22, #[.string t], by go_simp, (C2.out _).mono ?_⟩
      rintro e w' ⟨rfl, hb⟩
      exact ⟨_, rfl, hb, rfl⟩
    · refine stepOk_value rfl fun a w ht => ?_
      have e1 : a.tmps[32]?.getD undef = .string (s.extract P (q + 4)) := ht.dep' 4 32 (by kernel_rfl) rfl
      have e2 : a.tmps[34]?.getD undef = .string x := ht.dep' 6 34 (by kernel_rfl) rfl
      have e3 := HB.out
      refine ⟨.bool B, w, ?_, Below.refl _ _, rfl⟩
      rw [← e3]
      clear e3
      go_simp
  case hd =>
    intro w2 hb2
    have hb3 := hb1.trans (hb2.mono hb1.size)
    cases B
    · have HR3 : Hid (r = (t, q + 4, 0)) := HR.out
      clear HB HR
      simp only [puts, List.map, go_sem, List.setIfInBounds_toArray, List.set_cons_succ, List.set_cons_zero]
      go_wp2_with fail
      go_ret3
      exact ⟨by rw [HR3.out]; rfl, hb3⟩
    · have HR3 : Hid (r = (ByteArray.empty, 0, 200)) := HR.out
      clear HB HR
      simp only [puts, List.map, go_sem, List.setIfInBounds_toArray, List.set_cons_succ, List.set_cons_zero]
      go_wp2_with fail
      go_ret3
      exact ⟨by rw [HR3.out]; rfl, hb3⟩

theorem refFTake_any (s : ByteArray) (p : Int) (w : World) (hs : s.size ≤ 70368744177664) :
    Calls Try.prog 14 #[.string s, .int .i64 p] w fun e w' => e = .returned (tripT (Frm.ftB s p)) ∧ Below w.heap.size w w' := by
  have hs' : s.size ≤ maxLen := by unfold maxLen; omega
  have hs2 : (s.size : Int) ≤ 9223372036854775807 := by omega
  have C1 := Lib.hid (fun w => refTakeText_any s p w hs')
  have hle := Oct.ttB_le s p
  obtain ⟨r, hr⟩ : ∃ r, r = Frm.ftB s p := ⟨_, rfl⟩
  rw [← hr]
  unfold Frm.ftB at hr
  simp only at hr
  cases hx : Oct.ttB s p with
  | mk t y =>
  obtain ⟨q, e⟩ := y
  rw [hx] at hr hle C1
  simp only at hr hle
  by_cases he : (e : Int) = 0
  · obtain rfl : e = 0 := by omega
    obtain ⟨P, rfl, h1, h2, h3, h4⟩ := Oct.ttB_form hx
    rw [if_neg (by simp)] at hr
    by_cases ht : (20000 : Int) < (t.size : Int)
    · rw [if_pos (by omega)] at hr
      have HR := Lib.hid hr
      clear hr hx h4 hle
      unfold tripT at C1
      simp only at C1
      go_enter Try.func14, Try.ntmps14
      go_wp2_with fail
      refine (C1.out _).mono ?_
      rintro e w1 ⟨rfl, hb1⟩
      go_wp2_with fail
      go_ret3
      exact ⟨by rw [HR.out]; rfl, hb1⟩
    · rw [if_neg (by omega)] at hr
      by_cases hl : (s.size : Int) - (q : Int) < 4
      · rw [if_pos (by omega)] at hr
        have HR := Lib.hid hr
        clear hr hx h4 hle
        unfold tripT at C1
        simp only at C1
        go_enter Try.func14, Try.ntmps14
        go_wp2_with fail
        refine (C1.out _).mono ?_
        rintro e w1 ⟨rfl, hb1⟩
        go_wp2_with fail
        go_ret3
        exact ⟨by rw [HR.out]; rfl, hb1⟩
      · rw [if_neg (by omega)] at hr
        have hC2 := fun w => one_any t (by omega) w
        refine refFTake_last s t (Frm.frB t) P q w hs2 (by omega) (by omega) hl ht C1 (Lib.hid hC2) _ rfl r ?_
        rw [hr]
        have hj := Oct.cut_join s P q (q + 4) (by omega) (by omega)
        by_cases hc : Frm.sumB (Oct.textB t) = s.extract q (q + 4)
        · have hf : s.extract P (q + 4) = Frm.frB t := by unfold Frm.frB; rw [hc, h4, hj]
          rw [if_neg (by simp [hc]), if_neg (by simp [hf])]
        · have hne : ¬ (s.extract P (q + 4)).toList = (Frm.frB t).toList := by
            intro h
            rw [ByteArray.toList_eq, ByteArray.toList_eq, ← hj, ← h4, Oct.data_join] at h
            unfold Frm.frB at h
            rw [Oct.data_join] at h
            exact hc (ByteArray.ext (Array.toList_inj.1 (List.append_cancel_left h).symm))
          rw [if_pos hc, if_pos (by simp [hne])]
  · rw [if_pos (by simp; omega)] at hr
    have HR := Lib.hid hr
    clear hr hx hle
    unfold tripT at C1
    simp only at C1
    go_enter Try.func14, Try.ntmps14
    go_wp2_with fail
    refine (C1.out _).mono ?_
    rintro e w1 ⟨rfl, hb1⟩
    go_wp2_with fail
    go_ret3
    exact ⟨by rw [HR.out]; rfl, hb1⟩
end Go.Proofs.Ytbhadaiijcdlkaa
