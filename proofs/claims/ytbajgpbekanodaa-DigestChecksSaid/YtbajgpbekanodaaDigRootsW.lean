/- The walk over pandectlaw38's DigestRoots. -/
import Derived.Test.YtbajgpbekanodaaDigRefProof
import Derived.Test.YtbajgpbekanodaaDigSumsW
import Derived.Test.YtbajgpbekanodaaOctListB
namespace Go.Proofs.Ytbajgpbekanodaa
open Go.RowKit

theorem ref_law : RefLaw shaB := ⟨shaB_size, fun s hs w => refSum_any s hs w⟩

set_option maxRecDepth 100000 in
set_option maxHeartbeats 2000000 in
theorem roots_great (i : Int) (ao : Option Addr) (n cap : Nat) (w : World)
    (C0 : Hid (Calls Try.prog 15 #[.slice ao n cap, .int .i64 3000] w fun e w' => e = .returned (.bool false) ∧ w = w')) :
    Calls Try.prog 6 #[.int .i64 i, .slice ao n cap] w fun e w' => e = .returned (.bool true) ∧ Below w.heap.size w w' := by
  go_enter Try.func6, Try.ntmps6
  go_wp2_with fail
  refine C0.out.mono ?_
  rintro e w1 ⟨rfl, rfl⟩
  go_wp2_with fail
  refine (awake38_any _).mono ?_
  rintro e w5 ⟨rfl, hb5⟩
  go_wp2_with fail
  go_ret
  exact ⟨rfl, hb5⟩

set_option maxRecDepth 100000 in
set_option maxHeartbeats 2000000 in
theorem roots_in (i : Int) (ao : Option Addr) (n cap : Nat) (ps : List ByteArray) (er : Nat) (rt : ByteArray) (w : World) (hps : Hid (∀ s ∈ ps, s.size ≤ maxLen))
    (C0 : Hid (Calls Try.prog 15 #[.slice ao n cap, .int .i64 3000] w fun e w' => e = .returned (.bool true) ∧ w = w'))
    (C1 : Hid (∀ w', Below w.heap.size w w' → Calls Try.prog 27 #[.int .i64 i, .slice ao n cap] w' (OwnOut w' ps (.int .i64 (er : Int)))))
    (C2 : Hid (∀ w', Below w.heap.size w w' → Calls Try.prog 28 #[.int .i64 i, .slice ao n cap] w' (OwnOut w' ps (.int .i64 (er : Int)))))
    (C3 : Hid (∀ w', Below w.heap.size w w' → Calls Try.prog 19 #[.slice ao n cap] w' fun e w'' => e = .returned (.string rt) ∧ Below w'.heap.size w' w''))
    (C4 : Hid (∀ w', Below w.heap.size w w' → Calls Try.prog 29 #[.slice ao n cap] w' fun e w'' => e = .returned (.string rt) ∧ Below w'.heap.size w' w''))
    (C5 : Hid (∀ a1 a2 c1 c2 w', StrsFit ps c1 → StrsAt w' a1 ps → StrsAt w' a2 ps → Calls Try.prog 30 #[.slice a1 ps.length c1, .slice a2 ps.length c2] w' fun e w'' => e = .returned (.bool true) ∧ Below w'.heap.size w' w'')) :
    Calls Try.prog 6 #[.int .i64 i, .slice ao n cap] w fun e w' => e = .returned (.bool true) ∧ Below w.heap.size w w' := by
  obtain ⟨m, hm⟩ : ∃ m, ps.length = m := ⟨_, rfl⟩
  rw [hm] at C5
  have HM := Lib.hid hm
  clear hm
  go_enter Try.func6, Try.ntmps6
  go_wp2_with fail
  refine C0.out.mono ?_
  rintro e w1 ⟨rfl, rfl⟩
  go_wp2_with fail
  refine (C1.out _ (Below.refl _ _)).mono ?_
  rintro e w2 ho
  obtain ⟨a1, c1, rfl, hat1, hfi1, hb2⟩ := ho.strs hps.out
  have HFI := Lib.hid hfi1
  have HB2 := Lib.hid hb2
  have HA1 := Lib.hid hat1
  rw [HM.out]
  clear ho hb2 hat1 hfi1 C0 C1
  go_wp2_with fail
  refine (C2.out _ HB2.out).mono ?_
  rintro e w3 ho
  obtain ⟨a2, c2, rfl, hat2, _, hb3⟩ := ho.strs hps.out
  have HB3 := Lib.hid (HB2.out.trans (hb3.mono HB2.out.size))
  have HA13 := Lib.hid (HA1.out.kept hb3 (Nat.le_refl _))
  have HA2 := Lib.hid hat2
  rw [HM.out]
  clear ho hb3 hat2 C2 HA1 HB2
  go_wp2_with fail
  refine (C3.out _ HB3.out).mono ?_
  rintro e w4 ⟨rfl, hb4⟩
  have HB4 := Lib.hid (HB3.out.trans (hb4.mono HB3.out.size))
  have HA14 := Lib.hid (HA13.out.kept hb4 (Nat.le_refl _))
  have HA24 := Lib.hid (HA2.out.kept hb4 (Nat.le_refl _))
  clear hb4 HB3 HA13 HA2 C3
  go_wp2_with fail
  refine (C4.out _ HB4.out).mono ?_
  rintro e w5 ⟨rfl, hb5⟩
  have HB5 := Lib.hid (HB4.out.trans (hb5.mono HB4.out.size))
  have HA15 := Lib.hid (HA14.out.kept hb5 (Nat.le_refl _))
  have HA25 := Lib.hid (HA24.out.kept hb5 (Nat.le_refl _))
  clear hb5 HB4 HA14 HA24 C4
  go_wp2_with fail
  refine (C5.out _ _ _ _ _ HFI.out HA15.out HA25.out).mono ?_
  rintro e w6 ⟨rfl, hb6⟩
  have HB6 := Lib.hid (HB5.out.trans (hb6.mono HB5.out.size))
  clear hb6 HB5 HA15 HA25 C5
  go_wp2_with fail
  refine (awake38_any _).mono ?_
  rintro e w7 ⟨rfl, hb7⟩
  go_wp2_with fail
  go_ret
  exact ⟨rfl, HB6.out.trans (hb7.mono HB6.out.size)⟩

theorem digestRoots_walk (i : Int) (ao : Option Addr) (cap : Nat) (l : List ByteArray) (w : World) (_ : -9223372036854775808 ≤ i ∧ i ≤ 9223372036854775807) (hf : StrsFit l cap) (hc : StrsAt w ao l) (_ : cap * 16 ≤ 140737488351232) :
    Calls Try.prog 6 #[.int .i64 i, .slice ao l.length cap] w fun e w' => e = .returned (.bool true) ∧ Below w.heap.size w w' := by
  have C0 := small38_det l 3000 (by omega) ao cap w hf hc
  cases hb : smallB l 3000 with
  | false => rw [hb] at C0; exact roots_great i ao l.length cap w C0
  | true =>
    rw [hb] at C0
    obtain ⟨hl, hs⟩ := smallB_leaf hb
    have hok : LeafOk l := fun s h => by have := hs s h; omega
    refine roots_in i ao l.length cap (Tre.proofR shaB i l).1 (Tre.proofR shaB i l).2 (Tre.rootB shaB l) w ?_ C0 ?_ ?_ ?_ ?_ ?_
    · intro s hs'
      unfold Tre.proofR at hs'
      split at hs'
      · cases hs'
      · have := Tre.proof_sizes shaB shaB_size l.length i.toNat l (Nat.le_refl _) (by omega) s hs'
        unfold maxLen; omega
    · intro w' hb'
      exact proof_any sum_law i l ao l.length cap w' rfl hf (hc.kept hb' (Nat.le_refl _)) hok
    · intro w' hb'
      exact refProof_any ref_law i l ao l.length cap w' rfl hf (hc.kept hb' (Nat.le_refl _)) hok
    · intro w' hb'
      exact root_any sum_law l.length l _ l.length cap w' (Nat.le_refl _) rfl hf (hc.kept hb' (Nat.le_refl _)) hok
    · intro w' hb'
      exact refRoot_any ref_law l.length l _ l.length cap w' (Nat.le_refl _) rfl hf (hc.kept hb' (Nat.le_refl _)) hok
    · intro a1 a2 c1 c2 w' hf1 h1 h2
      exact same_yes a1 a2 c1 c2 _ w' hf1 h1 h2
end Go.Proofs.Ytbajgpbekanodaa
