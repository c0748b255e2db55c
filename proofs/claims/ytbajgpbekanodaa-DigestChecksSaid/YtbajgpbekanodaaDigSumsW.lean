/- The document's Sum of a text; pandectlaw38's joined; the walk over pandectlaw38's DigestSums. -/
import Derived.Test.YtbajgpbekanodaaDigRefSum
import Derived.Test.YtbajgpbekanodaaDigSmallB
namespace Go.Proofs.Ytbajgpbekanodaa
open Go.RowKit

theorem refSum_any (s : ByteArray) (hs : s.size ≤ 1099511627776) (w : World) :
    Calls Try.prog 21 #[.string s] w fun e w' => e = .returned (.string (shaB s)) ∧ Below w.heap.size w w' := by
  have h := refSum_gen Sha.mix (fun v hv l hl g off cap w hg hc => block_any v hv l hl g off cap w hg hc) Sha.mix_ok s hs w
  unfold shaB Sha.sum Sha.state Sha.blocks
  exact h

set_option maxRecDepth 100000 in
set_option maxHeartbeats 1000000 in
theorem joined_any (ao : Option Addr) (n cap : Nat) (ss : List ByteArray) (w : World) (hn : n = ss.length) (hc : StrsAt w ao ss) (hle : (jnB ss).size ≤ 1099511627776) (h63 : (n : Int) ≤ 9223372036854775807) :
    Calls Try.prog 22 #[.slice ao n cap] w fun e w' => e = .returned (.string (jnB ss)) ∧ Below w.heap.size w w' := by
  have HN := Lib.hid hn
  have HA := Lib.hid hc
  have HLE := Lib.hid hle
  have HALL : Hid (jnB ss = jnB (ss.take n)) := by show _ = _; rw [hn, List.take_length]
  clear hn hc hle
  go_enter Try.func22, Try.ntmps22
  go_wp2_with fail
  go_loopw [3, 4] (fun o i wr => ∃ k : Nat, (k : Int) ≤ (n : Int) ∧ i = .int .i64 (k : Int) ∧ o = .string (jnB (ss.take k)) ∧ Hid (Below w.heap.size w wr)) (fun _ i _ => n - (intOf i).toNat)
  case atStart => exact ⟨0, by omega, rfl, rfl, Below.refl _ _⟩
  case round =>
    obtain ⟨k, hk, rfl, rfl, HBE⟩ := hrel
    have hk0 : (0 : Int) ≤ (k : Int) := Int.natCast_nonneg _
    by_cases hlt : (k : Int) < (n : Int)
    · have hkl : k < ss.length := by rw [← HN.out]; omega
      obtain ⟨b, off, rfl, hbl, hcell0⟩ := HA.out k hkl
      have hcell := (HBE.out.cell (p := ⟨b, off + k, none⟩) hbl).trans hcell0
      have HT := Lib.hid (jn_take ss k hkl)
      have h1 : ((jnB (ss.take k)).size : Int) ≤ 1099511627776 := by have h1 := jn_le ss k; have := HLE.out; omega
      have h2 : ((jnB (ss.take k)).size : Int) + ((ss.getD k ByteArray.empty).size : Int) ≤ 1099511627776 := by
        have h1 := jn_le ss (k + 1)
        rw [jn_take ss k hkl, ByteArray.size_append] at h1
        have := HLE.out
        omega
      generalize ss.getD k ByteArray.empty = s at *
      generalize jnB (ss.take k) = x at *
      clear hcell0 hkl
      go_wp2_with fail
      go_roundw
      case rel => exact ⟨k + 1, by omega, by go_num, by rw [HT.out], HBE⟩
      case measure => simp [intOf]; omega
    · obtain rfl : k = n := by omega
      clear hlt
      go_wp2_with fail
      go_ret
      exact ⟨congrArg (fun z => Ending.returned (.string z)) HALL.out.symm, HBE.out⟩

set_option maxRecDepth 100000 in
set_option maxHeartbeats 2000000 in
theorem digestSums_walk (ao : Option Addr) (cap : Nat) (l : List ByteArray) (w : World) (hf : StrsFit l cap) (hc : StrsAt w ao l) (_ : cap * 16 ≤ 140737488351232) :
    Calls Try.prog 4 #[.slice ao l.length cap] w fun e w' => e = .returned (.bool true) ∧ Below w.heap.size w w' := by
  have C0 := Lib.hid (small38_det l 10000 (by omega) ao cap w hf hc)
  have hl63 : (l.length : Int) ≤ 9223372036854775807 := by have h1 := hf.1; have h2 := hf.2.1; unfold maxLen at h2; omega
  cases hb : smallB l 10000 with
  | false =>
    rw [hb] at C0
    go_enter Try.func4, Try.ntmps4
    go_wp2_with fail
    refine C0.out.mono ?_
    rintro e w1 ⟨rfl, rfl⟩
    go_wp2_with fail
    refine (awake38_any _).mono ?_
    rintro e w5 ⟨rfl, hb5⟩
    go_wp2_with fail
    go_ret
    exact ⟨rfl, hb5⟩
  | true =>
    rw [hb] at C0
    obtain ⟨hl, _⟩ := smallB_leaf hb
    have C1 := Lib.hid (sum38_any ao l.length cap l w rfl hf hc (by omega))
    have C2 : Hid (∀ w', Below w.heap.size w w' → Calls Try.prog 22 #[.slice ao l.length cap] w' fun e w'' => e = .returned (.string (jnB l)) ∧ Below w'.heap.size w' w'') :=
      fun w' hb' => joined_any ao l.length cap l w' rfl (hc.kept hb' (Nat.le_refl _)) (by omega) hl63
    have C3 := Lib.hid (fun w => refSum_any (jnB l) (by omega) w)
    generalize shaB (jnB l) = d at *
    generalize jnB l = t at *
    generalize l.length = n at *
    clear hf hc hb hl
    go_enter Try.func4, Try.ntmps4
    go_wp2_with fail
    refine C0.out.mono ?_
    rintro e w1 ⟨rfl, rfl⟩
    go_wp2_with fail
    refine C1.out.mono ?_
    rintro e w2 ⟨rfl, hb2⟩
    have HB2 := Lib.hid hb2
    clear hb2
    go_wp2_with fail
    refine (C2.out _ HB2.out).mono ?_
    rintro e w3 ⟨rfl, hb3⟩
    have HB3 := Lib.hid (HB2.out.trans (hb3.mono HB2.out.size))
    clear hb3
    go_wp2_with fail
    refine (C3.out _).mono ?_
    rintro e w4 ⟨rfl, hb4⟩
    have HB4 := Lib.hid (HB3.out.trans (hb4.mono HB3.out.size))
    clear hb4
    go_wp2_with fail
    refine (awake38_any _).mono ?_
    rintro e w5 ⟨rfl, hb5⟩
    go_wp2_with fail
    go_ret
    exact ⟨rfl, HB4.out.trans (hb5.mono HB4.out.size)⟩
end Go.Proofs.Ytbajgpbekanodaa
