/- The walk over digest's Clash. -/
import Derived.Test.YtbajgpbekanodaaDigClashM
namespace Go.Proofs.Ytbajgpbekanodaa
open Go.RowKit

set_option maxRecDepth 100000 in
set_option maxHeartbeats 2000000 in
theorem clash_bad (i : Int) (leaf : ByteArray) (ap ao : Option Addr) (m cp n cap : Nat) (w : World)
    (C1 : Hid (Calls Try.prog 27 #[.int .i64 i, .slice ao n cap] w (OwnOut w [] (.int .i64 2)))) :
    Calls Try.prog 17 #[.int .i64 i, .string leaf, .slice ap m cp, .slice ao n cap] w fun e w' => e = .returned (.tuple #[.string ByteArray.empty, .string ByteArray.empty, .bool false]) ∧ Below w.heap.size w w' := by
  go_enter Try.func17, Try.ntmps17
  go_wp2_with fail
  refine C1.out.mono ?_
  rintro e w2 ho
  obtain ⟨ap, c, rfl, _, _, hb2⟩ := ho.strs (fun s hs => by cases hs)
  have HB2 := Lib.hid hb2
  simp only [List.length_nil]
  clear ho hb2
  go_wp2_with fail
  go_ret3
  exact ⟨rfl, HB2.out⟩

set_option maxRecDepth 100000 in
set_option maxHeartbeats 2000000 in
theorem clash_same (b off n cap i : Nat) (s : ByteArray) (ps : List ByteArray) (ap : Option Addr) (m cp : Nat) (w : World) (hin : (i : Int) < (n : Int)) (hbw : b < w.heap.size) (hcell : w.cell? ⟨b, off + i, none⟩ = some (.string s))
    (hps : Hid (∀ s ∈ ps, s.size ≤ maxLen))
    (C1 : Hid (Calls Try.prog 27 #[.int .i64 (i : Int), .slice (some ⟨b, off, none⟩) n cap] w (OwnOut w ps (.int .i64 0)))) :
    Calls Try.prog 17 #[.int .i64 (i : Int), .string s, .slice ap m cp, .slice (some ⟨b, off, none⟩) n cap] w fun e w' => e = .returned (.tuple #[.string ByteArray.empty, .string ByteArray.empty, .bool false]) ∧ Below w.heap.size w w' := by
  have hi0 : (0 : Int) ≤ (i : Int) := Int.natCast_nonneg _
  go_enter Try.func17, Try.ntmps17
  go_wp2_with fail
  refine C1.out.mono ?_
  rintro e w2 ho
  obtain ⟨aq, c, rfl, _, _, hb2⟩ := ho.strs hps.out
  have HB2 := Lib.hid hb2
  have hcell2 := (hb2.cell (p := ⟨b, off + i, none⟩) hbw).trans hcell
  generalize ps.length = q at *
  clear ho hb2 hcell C1
  go_wp2_with fail
  go_ret3
  exact ⟨rfl, HB2.out⟩

set_option maxRecDepth 100000 in
set_option maxHeartbeats 2000000 in
theorem clash_unproved (b off n cap i : Nat) (s leaf rt : ByteArray) (ps : List ByteArray) (ap : Option Addr) (m cp : Nat) (w : World) (hin : (i : Int) < (n : Int)) (hbw : b < w.heap.size) (hcell : w.cell? ⟨b, off + i, none⟩ = some (.string s)) (hne : (s.toList == leaf.toList) = false)
    (hps : Hid (∀ s ∈ ps, s.size ≤ maxLen))
    (C1 : Hid (Calls Try.prog 27 #[.int .i64 (i : Int), .slice (some ⟨b, off, none⟩) n cap] w (OwnOut w ps (.int .i64 0))))
    (C2 : Hid (∀ w', Below w.heap.size w w' → Calls Try.prog 19 #[.slice (some ⟨b, off, none⟩) n cap] w' fun e w'' => e = .returned (.string rt) ∧ Below w'.heap.size w' w''))
    (C3 : Hid (∀ w', Below w.heap.size w w' → Calls Try.prog 18 #[.string rt, .int .i64 (n : Int), .int .i64 (i : Int), .string leaf, .slice ap m cp] w' fun e w'' => e = .returned (.bool false) ∧ Below w'.heap.size w' w'')) :
    Calls Try.prog 17 #[.int .i64 (i : Int), .string leaf, .slice ap m cp, .slice (some ⟨b, off, none⟩) n cap] w fun e w' => e = .returned (.tuple #[.string ByteArray.empty, .string ByteArray.empty, .bool false]) ∧ Below w.heap.size w w' := by
  have hi0 : (0 : Int) ≤ (i : Int) := Int.natCast_nonneg _
  go_enter Try.func17, Try.ntmps17
  go_wp2_with fail
  refine C1.out.mono ?_
  rintro e w2 ho
  obtain ⟨aq, c, rfl, _, _, hb2⟩ := ho.strs hps.out
  have HB2 := Lib.hid hb2
  have hcell2 := (hb2.cell (p := ⟨b, off + i, none⟩) hbw).trans hcell
  generalize ps.length = q at *
  clear ho hb2 hcell C1
  go_wp2_with fail
  refine (C2.out _ HB2.out).mono ?_
  rintro e w3 ⟨rfl, hb3⟩
  have HB3 := Lib.hid (HB2.out.trans (hb3.mono HB2.out.size))
  clear hb3
  go_wp2_with fail
  refine (C3.out _ HB3.out).mono ?_
  rintro e w4 ⟨rfl, hb4⟩
  have HB4 := Lib.hid (HB3.out.trans (hb4.mono HB3.out.size))
  clear hb4
  go_wp2_with fail
  go_ret3
  exact ⟨rfl, HB4.out⟩
end Go.Proofs.Ytbajgpbekanodaa
