/- The walk over the law OctetsForms. Condition: the text is at most 2^42 bytes. -/
import Derived.Test.YtcnnfbmfhjphfaaOctListB
import Derived.Test.YtcnnfbmfhjphfaaOctForm
import Derived.Deep.RegionHeld3
import Derived.Deep.CutRange
import Derived.BigQuiet
namespace Go.Proofs.Ytcnnfbmfhjphfaa
open Go.RowKit

/-- What was taken at p, up to q, is x. -/
def Cut (s : ByteArray) (p : Int) (q e : Nat) (x : ByteArray) : Prop := e = 0 → 0 ≤ p ∧ p < (q : Int) ∧ (q : Int) ≤ (s.size : Int) ∧ s.extract p.toNat q = x
theorem cut_of {s : ByteArray} {p : Int} {q e : Nat} {x : ByteArray} (h : e = 0 → ∃ P : Nat, p = (P : Int) ∧ P < q ∧ q ≤ s.size ∧ x = s.extract P q) : Cut s p q e x := by
  intro he
  obtain ⟨P, rfl, h1, h2, h3⟩ := h he
  exact ⟨by omega, by omega, by omega, by rw [h3]; simp⟩

set_option maxRecDepth 100000 in
set_option maxHeartbeats 1000000 in
theorem octetsForms_any (s : ByteArray) (p : Int) (w : World) (hs : s.size ≤ 4398046511104) :
    Calls Try.prog 14 #[.string s, .int .i64 p] w fun e w' => e = .returned (.bool true) ∧ Below w.heap.size w w' := by
  have hs' : s.size ≤ maxLen := by unfold maxLen; omega
  have hs2 : (s.size : Int) ≤ 9223372036854775807 := by omega
  have C1 := Lib.hid (fun w => takeNumber_any s p w hs')
  have C2 := Lib.hid (fun w => takeText_any s p w hs')
  have C3 := Lib.hid (fun w => takeList_any s p w hs)
  have F1 : Hid (Cut s p (Oct.tnB s p).2.1 (Oct.tnB s p).2.2 (Oct.numB (Oct.tnB s p).1)) := cut_of fun he => by
    obtain ⟨P, h1, h2, h3, _, h4⟩ := Oct.tnB_form (s := s) (p := p) (n := (Oct.tnB s p).1) (q := (Oct.tnB s p).2.1) (by rw [← he])
    exact ⟨P, h1, h2, h3, h4⟩
  have F2 : Hid (Cut s p (Oct.ttB s p).2.1 (Oct.ttB s p).2.2 (Oct.textB (Oct.ttB s p).1)) := cut_of fun he => by
    obtain ⟨P, h1, h2, h3, _, h4⟩ := Oct.ttB_form (s := s) (p := p) (t := (Oct.ttB s p).1) (q := (Oct.ttB s p).2.1) (by rw [← he])
    exact ⟨P, h1, h2, h3, h4⟩
  have F3 : Hid (Cut s p (Oct.tlB s p).2.1 (Oct.tlB s p).2.2 (Oct.listB (Oct.tlB s p).1)) := cut_of fun he => by
    obtain ⟨P, h1, h2, h3, h4⟩ := Oct.tlB_form (s := s) (p := p) (l := (Oct.tlB s p).1) (q := (Oct.tlB s p).2.1) (by rw [← he])
    exact ⟨P, h1, h2, h3, h4⟩
  have N1 := Lib.hid (fun w => number_any (Oct.tnB s p).1 (Oct.tnB_le s p).2 w)
  have N2 := Lib.hid (fun w => text_any (Oct.ttB s p).1 (by have := (Oct.ttB_le s p).2; omega) w)
  have N3 : Hid (∀ w ao cap, (Oct.tlB s p).2.2 = 0 → StrsFit (Oct.tlB s p).1 cap → StrsAt w ao (Oct.tlB s p).1 →
      Calls Try.prog 32 #[.slice ao (Oct.tlB s p).1.length cap] w fun e w' => e = .returned (.string (Oct.listB (Oct.tlB s p).1)) ∧ Below w.heap.size w w') := by
    intro w ao cap he hf ha
    refine list_any ao cap _ w hf ha ?_
    obtain ⟨_, _, h3, h4⟩ := F3.out he
    rw [← h4, ByteArray.size_extract]
    omega
  clear hs hs'
  generalize Oct.tnB s p = r1 at *
  generalize Oct.ttB s p = r2 at *
  generalize Oct.tlB s p = r3 at *
  obtain ⟨n, q1, e1⟩ := r1
  obtain ⟨t, q2, e2⟩ := r2
  obtain ⟨l, q3, e3⟩ := r3
  unfold trip at C1
  unfold tripT at C2
  simp only at C1 C2 F1 F2 F3 N1 N2 N3
  generalize Oct.numB n = x1 at *
  generalize Oct.textB t = x2 at *
  generalize Oct.listB l = x3 at *
  go_enter Try.func14, Try.ntmps14
  go_wp2_with fail
  refine (C1.out _).mono ?_
  rintro e w1 ⟨rfl, hb1⟩
  clear C1
  have HB := Lib.hid hb1
  clear hb1
  go_upto_region 2 with fail
  go_cut [42] from 21 to 42 (fun c wx => c = .bool false ∧ Below w.heap.size w wx)
  case first =>
    by_cases he : (e1 : Int) = 0
    · obtain rfl : e1 = 0 := by omega
      obtain ⟨hp0, h1, h2, hx⟩ := F1.out rfl
      have hd1 : decide ((q1 : Int) ≤ p) = false := by simp; omega
      have hd2 : decide (s.size < q1) = false := by simp; omega
      have hp1 : p ≤ (q1 : Int) := by omega
      go_region_held3 (fun _ => True) (trivial) ((go_at_call 21; refine (N1.out _).mono ?_; rintro e wn ⟨rfl, hbn⟩))
      all_goals
        go_wp2_with fail
        go_meet
        exact ⟨rfl, HB.out.drew.trans (hbn.mono HB.out.drew.size)⟩
    · have hd1 : ((e1 : Int) == 0) = false := by rw [beq_eq_false_iff_ne]; exact he
      have hd2 : (e1 == 0) = false := by rw [beq_eq_false_iff_ne]; omega
      go_quiet (fail)
      go_wp2_with fail
      go_meet
      exact ⟨rfl, Below.drewN HB.out _⟩
  case rest =>
  obtain ⟨rfl, hcb⟩ := hcut
  have HB := Lib.hid hcb
  clear hcb
  clear F1 N1
  go_wp2_with fail
  refine (C2.out _).mono ?_
  rintro e w2 ⟨rfl, hb2⟩
  have HB2 := Lib.hid (HB.out.trans (hb2.mono HB.out.size))
  clear C2 hb2 HB
  have HB := HB2
  clear HB2
  go_upto_region 5 with fail
  go_cut [71] from 50 to 71 (fun c wx => c = .bool false ∧ Below w.heap.size w wx)
  case first =>
    by_cases he : (e2 : Int) = 0
    · obtain rfl : e2 = 0 := by omega
      obtain ⟨hp0, h1, h2, hx⟩ := F2.out rfl
      have hd1 : decide ((q2 : Int) ≤ p) = false := by simp; omega
      have hd2 : decide (s.size < q2) = false := by simp; omega
      have hp1 : p ≤ (q2 : Int) := by omega
      go_region_held3 (fun _ => True) (trivial) ((go_at_call 28; refine (N2.out _).mono ?_; rintro e wn ⟨rfl, hbn⟩))
      all_goals
        go_wp2_with fail
        go_meet
        exact ⟨rfl, HB.out.drew.trans (hbn.mono HB.out.drew.size)⟩
    · have hd1 : ((e2 : Int) == 0) = false := by rw [beq_eq_false_iff_ne]; exact he
      have hd2 : (e2 == 0) = false := by rw [beq_eq_false_iff_ne]; omega
      go_quiet (fail)
      go_wp2_with fail
      go_meet
      exact ⟨rfl, Below.drewN HB.out _⟩
  case rest =>
  obtain ⟨rfl, hcb⟩ := hcut
  have HB := Lib.hid hcb
  clear hcb
  clear F2 N2
  go_wp2_with fail
  refine (C3.out _).mono ?_
  rintro e w3 ⟨ao, cap, rfl, hA, hF, hb3⟩
  have HB2 := Lib.hid (HB.out.trans (hb3.mono HB.out.size))
  have N4 : Hid (e3 = 0 → ∀ wx, Below w3.heap.size w3 wx → Calls Try.prog 32 #[.slice ao l.length cap] wx fun e w' => e = .returned (.string x3) ∧ Below wx.heap.size wx w') := fun he wx hx => N3.out wx ao cap he hF (hA.below hx)
  clear C3 hb3 HB hA hF N3
  have HB := HB2
  clear HB2
  go_upto_region 8 with fail
  go_cut [100] from 79 to 100 (fun c wx => c = .bool false ∧ Below w.heap.size w wx)
  case first =>
    by_cases he : (e3 : Int) = 0
    · obtain rfl : e3 = 0 := by omega
      obtain ⟨hp0, h1, h2, hx⟩ := F3.out rfl
      have hd1 : decide ((q3 : Int) ≤ p) = false := by simp; omega
      have hd2 : decide (s.size < q3) = false := by simp; omega
      have hp1 : p ≤ (q3 : Int) := by omega
      go_region_held3 (fun _ => True) (trivial) ((go_at_call 32; refine (N4.out rfl _ (Below.refl _ _).drew).mono ?_; rintro e wn ⟨rfl, hbn⟩))
      all_goals
        go_wp2_with fail
        go_meet
        exact ⟨rfl, HB.out.drew.trans (hbn.mono HB.out.drew.size)⟩
    · have hd1 : ((e3 : Int) == 0) = false := by rw [beq_eq_false_iff_ne]; exact he
      have hd2 : (e3 == 0) = false := by rw [beq_eq_false_iff_ne]; omega
      go_quiet (fail)
      go_wp2_with fail
      go_meet
      exact ⟨rfl, Below.drewN HB.out _⟩
  case rest =>
  obtain ⟨rfl, hcb⟩ := hcut
  have HB := Lib.hid hcb
  clear hcb
  go_wp2_with fail
  refine (awake01_any _).mono ?_
  rintro e w4 ⟨rfl, hb4⟩
  go_wp2_with fail
  go_ret
  exact ⟨rfl, HB.out.trans (hb4.mono HB.out.size)⟩
theorem octetsForms_walk (s : ByteArray) (p : Int) (w : World) (hs : s.size ≤ 1048576) (_ : -9223372036854775808 ≤ p ∧ p ≤ 9223372036854775807) :
    Calls Try.prog 14 #[.string s, .int .i64 p] w fun e w' => e = .returned (.bool true) ∧ Below w.heap.size w w' :=
  octetsForms_any s p w (by omega)
end Go.Proofs.Ytcnnfbmfhjphfaa
