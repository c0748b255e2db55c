/- The walk over pandectlaw38's DigestDigits. -/
import Derived.Test.YtbajgpbekanodaaDigRefHexB
import Derived.Test.YtbajgpbekanodaaDigAwake
namespace Go.Proofs.Ytbajgpbekanodaa
open Go.RowKit

set_option maxRecDepth 100000 in
set_option maxHeartbeats 2000000 in
theorem digestDigits_walk (s : ByteArray) (w : World) (_ : s.size ≤ 140737488351232) :
    Calls Try.prog 5 #[.string s] w fun e w' => e = .returned (.bool true) ∧ Below w.heap.size w w' := by
  by_cases h : 10000 < (s.size : Int)
  · have d1 : decide ((10000 : Int) < (s.size : Int)) = true := decide_eq_true h
    go_enter Try.func5, Try.ntmps5
    go_wp2_with fail
    refine (awake38_any _).mono ?_
    rintro e w1 ⟨rfl, hb⟩
    go_wp2_with fail
    go_ret
    exact ⟨rfl, hb⟩
  · have d1 : decide ((10000 : Int) < (s.size : Int)) = false := decide_eq_false h
    have C1 := Lib.hid (fun w => unhex_any s (by omega) w)
    have C2 := Lib.hid (fun w => refUnhex_any s (by omega) w)
    have C3 := Lib.hid (fun w => hex_any s (by omega) w)
    have C4 := Lib.hid (fun w => refHex_any s (by omega) w)
    generalize unhexB s = r at *
    generalize hexB s = hx at *
    obtain ⟨t, f⟩ := r
    simp only at C1 C2
    go_enter Try.func5, Try.ntmps5
    go_wp2_with fail
    refine (C1.out _).mono ?_
    rintro e w1 ⟨rfl, hb1⟩
    have HB1 := Lib.hid hb1
    clear hb1
    go_wp2_with fail
    refine (C2.out _).mono ?_
    rintro e w2 ⟨rfl, hb2⟩
    have HB2 := Lib.hid (HB1.out.trans (hb2.mono HB1.out.size))
    clear hb2
    go_wp2_with fail
    refine (C3.out _).mono ?_
    rintro e w3 ⟨rfl, hb3⟩
    have HB3 := Lib.hid (HB2.out.trans (hb3.mono HB2.out.size))
    clear hb3
    go_wp2_with fail
    refine (C4.out _).mono ?_
    rintro e w4 ⟨rfl, hb4⟩
    have HB4 := Lib.hid (HB3.out.trans (hb4.mono HB3.out.size))
    clear hb4
    go_wp2_with fail
    refine (awake38_any _).mono ?_
    rintro e w5 ⟨rfl, hb5⟩
    go_wp2_with fail
    go_ret
    exact ⟨rfl, HB4.out.trans (hb5.mono HB4.out.size)⟩
end Go.Proofs.Ytbajgpbekanodaa
