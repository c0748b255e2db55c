/- The walk over the law CrcParts. -/
import Derived.Test.YtcnnfbmfhjphfaaCrcLaws
import Derived.Test.YtcnnfbmfhjphfaaCrcMathB
namespace Go.Proofs.Ytcnnfbmfhjphfaa
open Go.RowKit

theorem getD_mem {ss : List ByteArray} {k : Nat} (h : k < ss.length) : ss.getD k ByteArray.empty ∈ ss := by
  have e : ss.getD k ByteArray.empty = ss[k] := by simp [List.getD, h]
  rw [e]; exact List.getElem_mem h
theorem fit_one {s : ByteArray} (h : s.size ≤ maxLen) : StrsFit [s] 1 := ⟨by simp, by simp [maxLen], by simpa using h⟩
theorem catB_le (ss : List ByteArray) (h : Crc.smallB ss = true) (k : Nat) : ((Crc.catB (ss.take k)).size : Int) ≤ 100000 ∧ ∀ s ∈ ss, (s.size : Int) ≤ 100000 := by
  unfold Crc.smallB at h
  have h1 := of_decide_eq_true h
  have h2 := Crc.wt_le ss k
  have h3 := (Crc.catB_size (ss.take k) (by omega)).1
  exact ⟨by omega, fun s hs => by have := (Crc.catB_size ss h1).2 s hs; omega⟩

set_option maxHeartbeats 1000000 in
theorem crcParts_no (ao : Option Addr) (cap : Nat) (ss : List ByteArray) (w : World) (hf : StrsFit ss cap) (hc : StrsAt w ao ss) (hb : Crc.smallB ss = false) :
    Calls Try.prog 5 #[.slice ao ss.length cap] w fun e w' => e = .returned (.bool true) ∧ Below w.heap.size w w' := by
  go_enter Try.func5, Try.ntmps5
  go_wp2_with (first | (go_at_call 18; refine (awake_any _).mono ?_; rintro e w' ⟨rfl, hbel⟩) | (go_at_call 15; refine (small_any ao cap ss _ hf hc).mono ?_; rintro e w' ⟨rfl, rfl⟩))
  go_ret
  exact ⟨rfl, ‹_›⟩

set_option maxHeartbeats 1000000 in
theorem crcParts_yes (ao : Option Addr) (cap : Nat) (ss : List ByteArray) (w : World) (hf : StrsFit ss cap) (hb : Crc.smallB ss = true) (hat : StrsAt w ao ss) :
    Calls Try.prog 5 #[.slice ao ss.length cap] w fun e w' => e = .returned (.bool true) ∧ Below w.heap.size w w' := by
  have hm : ss.length ≤ 9223372036854775807 := by have h1 := hf.1; have h2 := hf.2.1; unfold maxLen at h2; omega
  have HB := Lib.hid hb
  have HC := Lib.hid hat
  have hsm := small_any ao cap ss w hf hat
  have hsum := fun (w' : World) (hb : Below w.heap.size w w') => sum_any ao cap ss w' hf (hat.below hb)
  rw [hb] at hsm
  have HSM := Lib.hid hsm
  have HSUM := Lib.hid hsum
  clear hat hb hsm hsum
  obtain ⟨n, hn⟩ : ∃ n, n = ss.length := ⟨_, rfl⟩
  rw [← hn] at hm HSM HSUM ⊢
  have HN := Lib.hid hn
  clear hn
  have fnil : StrsFit [] 0 := ⟨by simp, by simp [maxLen], by simp⟩
  have e0 : ((Crc.sumL [] : Nat) : Int) = 0 := rfl
  go_enter Try.func5, Try.ntmps5
  go_wp2_with fail
  refine HSM.out.mono ?_
  rintro e w' ⟨rfl, rfl⟩
  go_wp2_with fail
  refine (sum_at none 0 0 [] _ rfl fnil (fun i hi => by simp at hi)).mono ?_
  rintro e w' ⟨rfl, rfl⟩
  go_wp2_with fail
  go_loop [3, 4, 5] (fun a r i => ∃ k : Nat, k ≤ n ∧ i = .int .i64 k ∧ a = .string (Crc.catB (ss.take k)) ∧ r = .int .u32 (Crc.sumL (ss.take k))) (fun _ _ i => n - (intOf i).toNat)
  case atStart => exact ⟨0, by omega, rfl, rfl, rfl⟩
  case round =>
    obtain ⟨k, hk, rfl, rfl, rfl⟩ := hrel
    have hy := Crc.sumL_lt (ss.take k)
    obtain ⟨hcat, hsizes⟩ := catB_le ss HB.out k
    by_cases hlt : k < n
    · obtain ⟨s, hs⟩ : ∃ s, s = ss.getD k ByteArray.empty := ⟨_, rfl⟩
      have hl : k < ss.length := by rw [← HN.out]; exact hlt
      obtain ⟨b, off, rfl, hbl, hcell⟩ := HC.out k hl
      have H := Lib.hid (Crc.sumL_take ss k hl)
      have H2 := Lib.hid (Crc.catB_take ss k hl)
      have hsz := hsizes _ (getD_mem hl)
      rw [← hs] at hcell hsz
      have HS := Lib.hid hs
      clear hs hsizes
      have hsm : s.size ≤ maxLen := by unfold maxLen; omega
      go_wp2_with (go_at_call 19; refine (more_any _ hy _ hsm _).mono ?_; rintro e w' ⟨rfl, rfl⟩)
      go_round
      case rel => exact ⟨k + 1, by omega, by go_num, by rw [H2.out, ← HS.out], by rw [H.out, ← HS.out]⟩
      case measure => simp [intOf]; omega
    · obtain rfl : k = n := by omega
      have e1 : ss.take k = ss := List.take_of_length_le (by rw [HN.out]; omega)
      rw [e1] at hcat hy ⊢
      clear e1 hsizes
      have fcat : StrsFit [Crc.catB ss] 1 := fit_one (by unfold maxLen; omega)
      have H3 := Lib.hid (Crc.sumL_cat ss)
      go_wp2_with fail
      refine (HSUM.out _ (Below.refl _ _)).mono ?_
      rintro e w' ⟨rfl, rfl⟩
      go_wp2_with fail
      refine (sum_at _ 1 1 [Crc.catB ss] _ rfl fcat (strs_new _ _ _ _ (by simp) _ rfl)).mono ?_
      rintro e w' ⟨rfl, rfl⟩
      rw [H3.out]
      go_wp2_with fail
      refine (sum_at _ 1 1 [Crc.catB ss] _ rfl fcat (strs_new _ _ _ _ (by simp) _ rfl)).mono ?_
      rintro e w' ⟨rfl, rfl⟩
      rw [H3.out]
      go_wp2_with fail
      refine (awake_any _).mono ?_
      rintro e w' ⟨rfl, hbel⟩
      go_wp2_with fail
      go_ret
      exact ⟨rfl, (((Below.refl _ _).alloc (Nat.le_refl _) _).alloc (by simp) _).trans (hbel.mono (by simp; omega))⟩

theorem crcParts_walk (ao : Option Addr) (cap : Nat) (ss : List ByteArray) (w : World) (hf : StrsFit ss cap) (hc : StrsAt w ao ss) (_ : cap * 16 ≤ 140737488351232) :
    Calls Try.prog 5 #[.slice ao ss.length cap] w fun e w' => e = .returned (.bool true) ∧ Below w.heap.size w w' := by
  cases hb : Crc.smallB ss with
  | false => exact crcParts_no ao cap ss w hf hc hb
  | true =>
    exact crcParts_yes ao cap ss w hf hb hc
end Go.Proofs.Ytcnnfbmfhjphfaa
