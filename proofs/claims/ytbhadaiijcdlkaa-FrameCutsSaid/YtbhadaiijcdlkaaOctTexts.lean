/- The walks over octets.TakeText and the document's, and over the laws OctetsTakes and OctetsTexts. Condition: the text is at most maxLen bytes (the laws: 2^47 - 4096). -/
import Derived.Test.YtbhadaiijcdlkaaOctText
import Derived.Test.YtbhadaiijcdlkaaOctRef
namespace Go.Proofs.Ytbhadaiijcdlkaa
open Go.RowKit

/-- A text taken, as the program gives it back. -/
def tripT (r : ByteArray × Nat × Nat) : Value := .tuple #[.string r.1, .int .i64 r.2.1, .int .i64 r.2.2]

set_option maxRecDepth 100000 in
set_option maxHeartbeats 400000 in
theorem takeText_any (s : ByteArray) (p : Int) (w : World) (hs : s.size ≤ maxLen) :
    Calls Try.prog 23 #[.string s, .int .i64 p] w fun e w' => e = .returned (tripT (Oct.ttB s p)) ∧ Below w.heap.size w w' := by
  have C1 := Lib.hid (fun w => takeNumber_any s p w hs)
  have hq : ((Oct.tnB s p).2.1 : Int) ≤ (s.size : Int) := by have := (Oct.tnB_le s p).1; omega
  have hs2 : (s.size : Int) ≤ 9223372036854775807 := by unfold maxLen at hs; omega
  obtain ⟨r, hr⟩ : ∃ r, r = Oct.ttB s p := ⟨_, rfl⟩
  rw [← hr]
  unfold Oct.ttB at hr
  clear hs
  generalize Oct.tnB s p = x at *
  obtain ⟨n, q, e⟩ := x
  unfold trip at C1
  simp only at C1 hr hq
  by_cases he : (e : Int) = 0
  · obtain rfl : e = 0 := by omega
    rw [if_neg (by simp)] at hr
    by_cases hn : (s.size : Int) - (q : Int) < (n : Int)
    · rw [if_pos (by omega)] at hr
      have HR := Lib.hid hr
      clear hr
      go_enter Try.func23, Try.ntmps23
      go_wp2_with fail
      refine (C1.out _).mono ?_
      rintro e w1 ⟨rfl, hb1⟩
      go_wp2_with fail
      go_ret3
      exact ⟨by rw [HR.out]; rfl, hb1⟩
    · rw [if_neg (by omega)] at hr
      have HR := Lib.hid hr
      have hn2 : (n : Int) ≤ (s.size : Int) - (q : Int) := by omega
      clear hr hn
      go_enter Try.func23, Try.ntmps23
      go_wp2_with fail
      refine (C1.out _).mono ?_
      rintro e w1 ⟨rfl, hb1⟩
      go_wp2_with fail
      go_ret3
      exact ⟨by rw [HR.out]; rfl, hb1⟩
  · rw [if_pos (by simp; omega)] at hr
    have HR := Lib.hid hr
    clear hr
    go_enter Try.func23, Try.ntmps23
    go_wp2_with fail
    refine (C1.out _).mono ?_
    rintro e w1 ⟨rfl, hb1⟩
    go_wp2_with fail
    go_ret3
    exact ⟨by rw [HR.out]; rfl, hb1⟩

theorem cut_cut (s : ByteArray) (q n : Nat) (h : q + n ≤ s.size) : (s.extract q s.size).extract 0 n = s.extract q (q + n) := by
  apply ByteArray.ext
  rw [ByteArray.data_extract, ByteArray.data_extract, ByteArray.data_extract, Array.extract_extract]
  congr 1
  have : s.data.size = s.size := rfl
  omega

set_option maxRecDepth 100000 in
set_option maxHeartbeats 400000 in
theorem refTakeText_any (s : ByteArray) (p : Int) (w : World) (hs : s.size ≤ maxLen) :
    Calls Try.prog 24 #[.string s, .int .i64 p] w fun e w' => e = .returned (tripT (Oct.ttB s p)) ∧ Below w.heap.size w w' := by
  have C1 := Lib.hid (fun w => refTake_any s p w hs)
  have hq : ((Oct.tnB s p).2.1 : Int) ≤ (s.size : Int) := by have := (Oct.tnB_le s p).1; omega
  have hs2 : (s.size : Int) ≤ 9223372036854775807 := by unfold maxLen at hs; omega
  obtain ⟨r, hr⟩ : ∃ r, r = Oct.ttB s p := ⟨_, rfl⟩
  rw [← hr]
  unfold Oct.ttB at hr
  clear hs
  generalize Oct.tnB s p = x at *
  obtain ⟨n, q, e⟩ := x
  unfold trip at C1
  simp only at C1 hr hq
  obtain ⟨t, ht⟩ : ∃ t, s.extract q s.size = t := ⟨_, rfl⟩
  have hts : (t.size : Int) + (q : Int) = (s.size : Int) := by rw [← ht, ByteArray.size_extract]; omega
  by_cases he : (e : Int) = 0
  · obtain rfl : e = 0 := by omega
    rw [if_neg (by simp)] at hr
    by_cases hn : (t.size : Int) < (n : Int)
    · rw [if_pos (by omega)] at hr
      have HR := Lib.hid hr
      clear hr
      go_enter Try.func24, Try.ntmps24
      go_wp2_with fail
      refine (C1.out _).mono ?_
      rintro e w1 ⟨rfl, hb1⟩
      go_wp2_with fail
      go_ret3
      exact ⟨by rw [HR.out]; rfl, hb1⟩
    · rw [if_neg (by omega)] at hr
      have hcut := cut_cut s q n (by omega)
      rw [ht] at hcut
      rw [← hcut] at hr
      have HR := Lib.hid hr
      have hn2 : (n : Int) ≤ (t.size : Int) := by omega
      clear hr hn hcut
      go_enter Try.func24, Try.ntmps24
      go_wp2_with fail
      refine (C1.out _).mono ?_
      rintro e w1 ⟨rfl, hb1⟩
      go_wp2_with fail
      go_ret3
      exact ⟨by rw [HR.out]; rfl, hb1⟩
  · rw [if_pos (by simp; omega)] at hr
    have HR := Lib.hid hr
    clear hr
    go_enter Try.func24, Try.ntmps24
    go_wp2_with fail
    refine (C1.out _).mono ?_
    rintro e w1 ⟨rfl, hb1⟩
    go_wp2_with fail
    go_ret3
    exact ⟨by rw [HR.out]; rfl, hb1⟩

end Go.Proofs.Ytbhadaiijcdlkaa
