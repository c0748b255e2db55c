/- The walk over pandectlaw38's DigestProves. -/
import Derived.Test.YtbajgpbekanodaaDigSmallB
namespace Go.Proofs.Ytbajgpbekanodaa
open Go.RowKit

theorem strsAt_drew2 {w : World} {ao : Option Addr} {ss : List ByteArray} (h : StrsAt w ao ss) : StrsAt w.drew ao ss := h

set_option maxRecDepth 100000 in
set_option maxHeartbeats 4000000 in
theorem proves_out (i : Int) (ao : Option Addr) (n cap : Nat) (w : World) (hb : i < 0 ∨ (n : Int) ≤ i)
    (C1 : Hid (Calls Try.prog 27 #[.int .i64 i, .slice ao n cap] w (OwnOut w [] (.int .i64 2))))
    (C0 : Hid (Calls Try.prog 15 #[.slice ao n cap, .int .i64 3000] w fun e w' => e = .returned (.bool true) ∧ w = w')) :
    Calls Try.prog 8 #[.slice ao n cap, .int .i64 i] w fun e w' => e = .returned (.bool true) ∧ Below w.heap.size w w' := by
  by_cases h0 : i < 0
  · clear hb
    go_enter Try.func8, Try.ntmps8
    go_wp2_with fail
    refine C0.out.mono ?_
    rintro e w1 ⟨rfl, rfl⟩
    go_wp2_with fail
    refine C1.out.mono ?_
    rintro e w2 ho
    obtain ⟨ap, c, rfl, _, _, hb2⟩ := ho.strs (fun s hs => by cases hs)
    have HB2 := Lib.hid hb2
    simp only [List.length_nil]
    clear ho hb2
    go_wp2_with fail
    refine (awake38_any _).mono ?_
    rintro e w3 ⟨rfl, hb3⟩
    go_wp2_with fail
    go_ret
    exact ⟨rfl, HB2.out.trans (hb3.mono HB2.out.size)⟩
  · have h1 : (n : Int) ≤ i := by omega
    clear hb
    go_enter Try.func8, Try.ntmps8
    go_wp2_with fail
    refine C0.out.mono ?_
    rintro e w1 ⟨rfl, rfl⟩
    go_wp2_with fail
    refine C1.out.mono ?_
    rintro e w2 ho
    obtain ⟨ap, c, rfl, _, _, hb2⟩ := ho.strs (fun s hs => by cases hs)
    have HB2 := Lib.hid hb2
    simp only [List.length_nil]
    clear ho hb2
    go_wp2_with fail
    refine (awake38_any _).mono ?_
    rintro e w3 ⟨rfl, hb3⟩
    go_wp2_with fail
    go_ret
    exact ⟨rfl, HB2.out.trans (hb3.mono HB2.out.size)⟩

set_option maxRecDepth 100000 in
set_option maxHeartbeats 4000000 in
theorem proves_in (b off n cap i : Nat) (s rt : ByteArray) (ps : List ByteArray) (w : World) (hin : (i : Int) < (n : Int)) (hbw : b < w.heap.size) (hcell : w.cell? ⟨b, off + i, none⟩ = some (.string s))
    (hps : Hid (∀ s ∈ ps, s.size ≤ maxLen))
    (C1 : Hid (Calls Try.prog 27 #[.int .i64 (i : Int), .slice (some ⟨b, off, none⟩) n cap] w (OwnOut w ps (.int .i64 0))))
    (C2 : Hid (∀ w', Below w.heap.size w w' → Calls Try.prog 19 #[.slice (some ⟨b, off, none⟩) n cap] w' fun e w'' => e = .returned (.string rt) ∧ Below w'.heap.size w' w''))
    (C3 : Hid (∀ ap cap' w', StrsFit ps cap' → StrsAt w' ap ps → Calls Try.prog 18 #[.string rt, .int .i64 (n : Int), .int .i64 (i : Int), .string s, .slice ap ps.length cap'] w' fun e w'' => e = .returned (.bool true) ∧ Below w'.heap.size w' w''))
    (C0 : Hid (Calls Try.prog 15 #[.slice (some ⟨b, off, none⟩) n cap, .int .i64 3000] w fun e w' => e = .returned (.bool true) ∧ w = w')) :
    Calls Try.prog 8 #[.slice (some ⟨b, off, none⟩) n cap, .int .i64 (i : Int)] w fun e w' => e = .returned (.bool true) ∧ Below w.heap.size w w' := by
  have hi0 : (0 : Int) ≤ (i : Int) := Int.natCast_nonneg _
  obtain ⟨m, hm⟩ : ∃ m, ps.length = m := ⟨_, rfl⟩
  rw [hm] at C3
  have HM := Lib.hid hm
  clear hm
  go_enter Try.func8, Try.ntmps8
  go_wp2_with fail
  refine C0.out.mono ?_
  rintro e w1 ⟨rfl, rfl⟩
  go_wp2_with fail
  refine C1.out.mono ?_
  rintro e w2 ho
  obtain ⟨ap, c, rfl, hat, hfi, hb2⟩ := ho.strs hps.out
  have HB2 := Lib.hid hb2
  have HAT := Lib.hid hat
  have HFI := Lib.hid hfi
  have hcell2 := (hb2.cell (p := ⟨b, off + i, none⟩) hbw).trans hcell
  rw [HM.out]
  clear ho hb2 hat hfi C0 C1 hcell
  go_wp2_with fail
  have hbw2 : b < w2.heap.size := Nat.lt_of_lt_of_le hbw HB2.out.size
  go_region_held3 (fun w' => w'.cell? ⟨b, off + i, none⟩ = some (.string s)) (first | assumption | trivial)
    (first
      | (go_at_call 19; refine (C2.out _ ?hc).mono ?_; (case hc => first | exact HB2.out.drew | exact HB2.out); rintro e w3 ⟨rfl, hb3⟩; have hl3 := Nat.lt_of_lt_of_le hbw2 hb3.size; have hc3 := (hb3.cell (p := ⟨b, off + i, none⟩) hbw2).trans hcell2)
      | (go_at_call 18; refine (C3.out _ _ _ HFI.out ?hc).mono ?_; (case hc => first | exact HAT.out.kept hb3 (Nat.le_refl _) | exact (strsAt_drew2 HAT.out).kept hb3 (Nat.le_refl _) | exact strsAt_drew2 (HAT.out.kept hb3 (Nat.le_refl _)) | exact strsAt_drew2 ((strsAt_drew2 HAT.out).kept hb3 (Nat.le_refl _))); rintro e w4 ⟨rfl, hb4⟩; have hl4 := Nat.lt_of_lt_of_le hl3 hb4.size; have hc4 := (hb4.cell (p := ⟨b, off + i, none⟩) hl3).trans hc3)
      | (go_at_call 16; refine (awake38_any _).mono ?_; rintro e w5 ⟨rfl, hb5⟩; have hc5 := (hb5.cell (p := ⟨b, off + i, none⟩) hl4).trans hc4))
  have k3 : Below w2.heap.size w2 w3 := by first | exact hb3 | exact ((Below.refl _ w2).drew).trans hb3
  have k4 : Below w2.heap.size w2 w4 := by first | exact k3.trans (hb4.mono k3.size) | exact k3.drew.trans (hb4.mono k3.size)
  have k5 : Below w2.heap.size w2 w5 := by first | exact k4.trans (hb5.mono k4.size) | exact k4.drew.trans (hb5.mono k4.size)
  clear hc3 hc4 hc5
  go_wp2_with fail
  go_ret
  exact ⟨rfl, HB2.out.trans (k5.mono HB2.out.size)⟩

set_option maxRecDepth 100000 in
set_option maxHeartbeats 2000000 in
theorem proves_great (i : Int) (ao : Option Addr) (n cap : Nat) (w : World)
    (C0 : Hid (Calls Try.prog 15 #[.slice ao n cap, .int .i64 3000] w fun e w' => e = .returned (.bool false) ∧ w = w')) :
    Calls Try.prog 8 #[.slice ao n cap, .int .i64 i] w fun e w' => e = .returned (.bool true) ∧ Below w.heap.size w w' := by
  go_enter Try.func8, Try.ntmps8
  go_wp2_with fail
  refine C0.out.mono ?_
  rintro e w1 ⟨rfl, rfl⟩
  go_wp2_with fail
  refine (awake38_any _).mono ?_
  rintro e w5 ⟨rfl, hb5⟩
  go_wp2_with fail
  go_ret
  exact ⟨rfl, hb5⟩
theorem digestProves_walk (ao : Option Addr) (cap : Nat) (l : List ByteArray) (i : Int) (w : World) (hf : StrsFit l cap) (hc : StrsAt w ao l) (_ : cap * 16 ≤ 140737488351232) (_ : -9223372036854775808 ≤ i ∧ i ≤ 9223372036854775807) :
    Calls Try.prog 8 #[.slice ao l.length cap, .int .i64 i] w fun e w' => e = .returned (.bool true) ∧ Below w.heap.size w w' := by
  have C0 := small38_det l 3000 (by omega) ao cap w hf hc
  cases hb : smallB l 3000 with
  | false => rw [hb] at C0; exact proves_great i ao l.length cap w C0
  | true =>
    rw [hb] at C0
    obtain ⟨hl, hs⟩ := smallB_leaf hb
    have hok : LeafOk l := fun s h => by have := hs s h; omega
    by_cases hi : i < 0 ∨ (l.length : Int) ≤ i
    · refine proves_out i ao l.length cap w hi ?_ C0
      have := proof_any sum_law i l ao l.length cap w rfl hf hc hok
      rw [show Tre.proofR shaB i l = ([], 2) by unfold Tre.proofR; rw [if_pos hi]] at this
      exact this
    · obtain ⟨k, rfl⟩ := Int.eq_ofNat_of_zero_le (show 0 ≤ i by omega)
      have hk : k < l.length := by omega
      obtain ⟨b, off, rfl, hbl, hcell⟩ := hc k hk
      have e : l.getD k ByteArray.empty = l[k] := by simp [List.getD, hk]
      rw [e] at hcell
      have hps : ∀ s ∈ Tre.proofB shaB k l, s.size = 32 := Tre.proof_sizes shaB shaB_size l.length k l (Nat.le_refl _) (by omega)
      refine proves_in b off l.length cap k l[k] (Tre.rootB shaB l) (Tre.proofB shaB k l) w (by omega) hbl hcell (fun s h => by have := hps s h; unfold maxLen; omega) ?_ ?_ ?_ C0
      · have := proof_any sum_law (k : Int) l _ l.length cap w rfl hf hc hok
        rw [show Tre.proofR shaB (k : Int) l = (Tre.proofB shaB k l, 0) by unfold Tre.proofR; rw [if_neg hi, Int.toNat_natCast]] at this
        exact this
      · intro w' hb'
        exact root_any sum_law l.length l _ l.length cap w' (Nat.le_refl _) rfl hf (hc.kept hb' (Nat.le_refl _)) hok
      · intro ap cap' w' hf' hc'
        have := proves_any sum_law (Tre.rootB shaB l) (l.length : Int) (k : Int) (by omega) l[k] (by have := hok l[k] (List.getElem_mem hk); omega) (Tre.proofB shaB k l) ap cap' w' hf' hc'
        rw [proves_own shaB shaB_size l (by omega) k hk] at this
        exact this
end Go.Proofs.Ytbajgpbekanodaa
