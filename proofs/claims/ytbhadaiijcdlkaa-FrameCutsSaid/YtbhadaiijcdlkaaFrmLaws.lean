/- The walks over awake and over the laws FrameMakes, FrameTakes, FrameScans, FrameForms. Conditions: what comes in is as the rows have it. -/
import Derived.Test.YtbhadaiijcdlkaaFrmIter
import Derived.Test.YtbhadaiijcdlkaaOctListB
namespace Go.Proofs.Ytbhadaiijcdlkaa
open Go.RowKit

def aw : ByteArray := ⟨#[1, 97, 113, 110, 255, 196, 0, 82, 125, 83, 81]⟩
def awx : ByteArray := ⟨#[1, 97, 113, 110, 255, 196, 0, 82, 125, 83, 81, 120]⟩

theorem same_at (ao bo : Option Addr) (n m ca cb : Nat) (ss : List ByteArray) (w : World) (hn : n = ss.length) (hm : m = ss.length) (hf : StrsFit ss ca) (ha : StrsAt w ao ss) (hb : StrsAt w bo ss) :
    Calls Try.prog 17 #[.slice ao n ca, .slice bo m cb] w fun e w' => e = .returned (.bool true) ∧ Below w.heap.size w w' := by
  subst hn hm; exact same_yes ao bo ca cb ss w hf ha hb

set_option maxRecDepth 100000 in
set_option maxHeartbeats 2000000 in
theorem awake20_any (w : World) :
    Calls Try.prog 10 #[] w fun e w' => e = .returned (.bool true) ∧ Below w.heap.size w w' := by
  have e1 : Frm.mkB [⟨#[97]⟩, ⟨#[]⟩] = (aw, 0) := by decide +kernel
  have e2 : Frm.scB awx = ([⟨#[97]⟩, ⟨#[]⟩], 11) := by decide +kernel
  have e3 : Frm.ftB aw 0 = (⟨#[97]⟩, 6, 0) := by decide +kernel
  have e4 : Frm.ftB ⟨#[0, 0, 0, 0, 0]⟩ 0 = (ByteArray.empty, 0, 200) := by decide +kernel
  have c1 := fun ao w (h : StrsAt w ao [⟨#[97]⟩, ⟨#[]⟩]) => make_any ao 2 [⟨#[97]⟩, ⟨#[]⟩] w ⟨by simp, by simp [maxLen], by decide⟩ h (by decide +kernel)
  have c2 := fun w => scan_any awx w (by decide)
  have c3 := fun w => frameTake_any aw 0 w (by decide)
  have c4 := fun w => frameTake_any ⟨#[0, 0, 0, 0, 0]⟩ 0 w (by decide)
  rw [e1] at c1
  rw [e2] at c2
  rw [e3] at c3
  rw [e4] at c4
  unfold pairB at c1
  unfold tripT at c3 c4
  have C1 := Lib.hid c1
  have C2 := Lib.hid c2
  have C3 := Lib.hid c3
  have C4 := Lib.hid c4
  clear e1 e2 e3 e4 c1 c2 c3 c4
  unfold aw at C1 C3
  unfold awx at C2
  have g1 : (((⟨#[1, 97, 113, 110, 255, 196, 0, 82, 125, 83, 81]⟩ : ByteArray).extract 0 2).toList == [1, 97]) = true := by decide +kernel
  go_enter Try.func10, Try.ntmps10
  go_wp2_with fail
  refine (C1.out _ _ (strs_new _ _ _ _ rfl _ rfl)).mono ?_
  rintro e w1 ⟨rfl, hb1⟩
  have k1 : Below w.heap.size w w1 := ((Below.refl _ _).alloc (Nat.le_refl _) _).trans (hb1.mono (by simp))
  clear hb1 C1
  go_wp2_with fail
  refine (C2.out _).mono ?_
  rintro e w2 ⟨ao, cap, rfl, hA, hF, hb2⟩
  have k2 := k1.trans (hb2.mono k1.size)
  have HA := Lib.hid hA
  have HF := Lib.hid hF
  clear hb2 k1 C2 hA hF
  go_wp2_with fail
  refine (C3.out _).mono ?_
  rintro e w3 ⟨rfl, hb3⟩
  have HA3 := Lib.hid (HA.out.below hb3)
  have k3 := k2.trans (hb3.mono k2.size)
  clear hb3 k2 C3 HA
  go_wp2_with fail
  refine (C4.out _).mono ?_
  rintro e w4 ⟨rfl, hb4⟩
  have HA4 := Lib.hid (HA3.out.below hb4)
  have k4 := k3.trans (hb4.mono k3.size)
  clear hb4 k3 C4 HA3
  go_wp2_with fail
  refine (same_at _ _ _ _ _ _ [⟨#[97]⟩, ⟨#[]⟩] _ rfl rfl HF.out (HA4.out.alloc _) (strs_new _ _ _ _ rfl _ rfl)).mono ?_
  rintro e w5 ⟨rfl, hb5⟩
  have k5 := (k4.alloc k4.size _).trans (hb5.mono (by have := k4.size; simp; omega))
  clear hb5 k4 HA4
  go_wp2_with fail
  go_ret
  exact ⟨rfl, k5⟩

set_option maxRecDepth 100000 in
set_option maxHeartbeats 2000000 in
theorem frameMakes_walk (ao : Option Addr) (cap : Nat) (ss : List ByteArray) (w : World) (hf : StrsFit ss cap) (hc : StrsAt w ao ss) (_ : cap * 16 ≤ 140737488351232) :
    Calls Try.prog 3 #[.slice ao ss.length cap] w fun e w' => e = .returned (.bool true) ∧ Below w.heap.size w w' := by
  have C0 := Lib.hid (small20_any ao cap ss w hf hc)
  by_cases hs : Frm.smallB ss = true
  · rw [hs] at C0
    have hle : (Frm.frS ss).size ≤ 140737488355328 := by
      have := Frm.frS_small (l := ss) (by unfold Frm.smallB at hs; exact of_decide_eq_true hs)
      omega
    have C1 := Lib.hid (make_any ao cap ss w hf hc hle)
    have C2 : Hid (∀ w', Below w.heap.size w w' → Calls Try.prog 12 #[.slice ao ss.length cap] w' fun e w'' => e = .returned (pairB (Frm.mkB ss)) ∧ Below w'.heap.size w' w'') := fun w' hb => refMake_any ao cap ss w' hf (hc.below hb) hle
    generalize Frm.mkB ss = r at *
    obtain ⟨x, n⟩ := r
    unfold pairB at C1 C2
    simp only at C1 C2
    generalize ss.length = len at *
    clear hf hc hs hle
    go_enter Try.func3, Try.ntmps3
    go_wp2_with fail
    refine C0.out.mono ?_
    rintro e w' ⟨rfl, rfl⟩
    go_wp2_with fail
    refine C1.out.mono ?_
    rintro e w1 ⟨rfl, hb1⟩
    go_wp2_with fail
    refine (C2.out _ hb1).mono ?_
    rintro e w2 ⟨rfl, hb2⟩
    have k2 := hb1.trans (hb2.mono hb1.size)
    go_wp2_with fail
    refine (awake20_any _).mono ?_
    rintro e w3 ⟨rfl, hb3⟩
    go_wp2_with fail
    go_ret
    exact ⟨rfl, k2.trans (hb3.mono k2.size)⟩
  · have hs2 : Frm.smallB ss = false := by simpa using hs
    rw [hs2] at C0
    generalize ss.length = len at *
    clear hf hc hs hs2
    go_enter Try.func3, Try.ntmps3
    go_wp2_with fail
    refine C0.out.mono ?_
    rintro e w' ⟨rfl, rfl⟩
    go_wp2_with fail
    refine (awake20_any _).mono ?_
    rintro e w3 ⟨rfl, hb3⟩
    go_wp2_with fail
    go_ret
    exact ⟨rfl, hb3⟩

set_option maxRecDepth 100000 in
set_option maxHeartbeats 2000000 in
theorem frameTakes_walk (s : ByteArray) (p : Int) (w : World) (hs : s.size ≤ 140737488351232) (_ : -9223372036854775808 ≤ p ∧ p ≤ 9223372036854775807) :
    Calls Try.prog 4 #[.string s, .int .i64 p] w fun e w' => e = .returned (.bool true) ∧ Below w.heap.size w w' := by
  have hs2 : (s.size : Int) ≤ 9223372036854775807 := by omega
  by_cases hb : (60000 : Int) < (s.size : Int)
  · clear hs
    go_enter Try.func4, Try.ntmps4
    go_wp2_with fail
    refine (awake20_any _).mono ?_
    rintro e w3 ⟨rfl, hb3⟩
    go_wp2_with fail
    go_ret
    exact ⟨rfl, hb3⟩
  · have C1 := Lib.hid (fun w => frameTake_any s p w (by omega))
    have C2 := Lib.hid (fun w => refFTake_any s p w (by omega))
    generalize Frm.ftB s p = r at *
    obtain ⟨x, q, e⟩ := r
    unfold tripT at C1 C2
    simp only at C1 C2
    clear hs
    go_enter Try.func4, Try.ntmps4
    go_wp2_with fail
    refine (C1.out _).mono ?_
    rintro e w1 ⟨rfl, hb1⟩
    go_wp2_with fail
    refine (C2.out _).mono ?_
    rintro e w2 ⟨rfl, hb2⟩
    have k2 := hb1.trans (hb2.mono hb1.size)
    go_wp2_with fail
    refine (awake20_any _).mono ?_
    rintro e w3 ⟨rfl, hb3⟩
    go_wp2_with fail
    go_ret
    exact ⟨rfl, k2.trans (hb3.mono k2.size)⟩

set_option maxRecDepth 100000 in
set_option maxHeartbeats 2000000 in
theorem frameScans_walk (s : ByteArray) (w : World) (hs : s.size ≤ 140737488351232) :
    Calls Try.prog 5 #[.string s] w fun e w' => e = .returned (.bool true) ∧ Below w.heap.size w w' := by
  have hs2 : (s.size : Int) ≤ 9223372036854775807 := by omega
  by_cases hb : (60000 : Int) < (s.size : Int)
  · clear hs
    go_enter Try.func5, Try.ntmps5
    go_wp2_with fail
    refine (awake20_any _).mono ?_
    rintro e w3 ⟨rfl, hb3⟩
    go_wp2_with fail
    go_ret
    exact ⟨rfl, hb3⟩
  · have C1 := Lib.hid (fun w => scan_any s w (by omega))
    have C2 := Lib.hid (fun w => refScan_any s w (by omega))
    generalize Frm.scB s = r at *
    obtain ⟨l, n⟩ := r
    clear hs
    go_enter Try.func5, Try.ntmps5
    go_wp2_with fail
    refine (C1.out _).mono ?_
    rintro e w1 ⟨ao, ca, rfl, hA, hF, hb1⟩
    have HA := Lib.hid hA
    have HF := Lib.hid hF
    clear hA hF
    go_wp2_with fail
    refine (C2.out _).mono ?_
    rintro e w2 ⟨bo, cb, rfl, hA2, hF2, hb2⟩
    have HA1 := Lib.hid (HA.out.below hb2)
    have HA2 := Lib.hid hA2
    have k2 := hb1.trans (hb2.mono hb1.size)
    have HS := Lib.hid (fun ca cb w' h1 h2 h3 => same_at ao bo l.length l.length ca cb l w' rfl rfl h1 h2 h3)
    simp only at HA HF HA1 HA2 ⊢
    generalize l.length = len at *
    clear hA2 hF2 HA
    go_wp2_with fail
    refine (HS.out _ _ _ HF.out HA1.out HA2.out).mono ?_
    rintro e w3 ⟨rfl, hb3⟩
    have k3 := k2.trans (hb3.mono k2.size)
    go_wp2_with fail
    refine (awake20_any _).mono ?_
    rintro e w4 ⟨rfl, hb4⟩
    go_wp2_with fail
    go_ret
    exact ⟨rfl, k3.trans (hb4.mono k3.size)⟩
end Go.Proofs.Ytbhadaiijcdlkaa
