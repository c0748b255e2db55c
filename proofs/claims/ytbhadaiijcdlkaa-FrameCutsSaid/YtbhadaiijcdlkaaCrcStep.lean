/- The walks over the register's steps (crc.step, crc.More, crc.Sum): what each call returns. No condition but the kinds' own bounds. -/
import Derived.Test.YtbhadaiijcdlkaaProg
import Derived.WalkKit
import Derived.WalkSpells
import Derived.WalkLawsBesides
import Derived.Lib.Hide
import Derived.Test.YtbhadaiijcdlkaaCrcMath
import Derived.Test.YtbhadaiijcdlkaaStrs
namespace Go.Proofs.Ytbhadaiijcdlkaa
open Go.RowKit

set_option maxHeartbeats 400000 in
theorem step_any (x : Nat) (hx : x < 4294967296) (w : World) :
    Calls Try.prog 42 #[.int .u32 x] w fun e w' => e = .returned (.int .u32 (Crc.sts 8 x)) ∧ w = w' := by
  go_enter Try.func42, Try.ntmps42
  go_wp2
  go_loop [0, 4] (fun r i => ∃ k : Nat, k ≤ 8 ∧ i = .int .i64 k ∧ r = .int .u32 (Crc.sts k x)) (fun _ i => 8 - (intOf i).toNat)
  case atStart => exact ⟨0, by omega, rfl, rfl⟩
  case round =>
    obtain ⟨k, hk, rfl, rfl⟩ := hrel
    have hy := Crc.sts_lt k hx
    go_wp2
    · go_round
      case rel => exact ⟨k + 1, by omega, by go_num, by rw [Crc.st_bits hy, Crc.sts_succ]⟩
      case measure => simp [intOf]; omega
    · go_ret
      obtain rfl : k = 8 := by omega
      exact ⟨rfl, rfl⟩

set_option maxHeartbeats 400000 in
theorem more_any (x : Nat) (hx : x < 4294967296) (s : ByteArray) (hs : s.size ≤ maxLen) (w : World) :
    Calls Try.prog 37 #[.int .u32 x, .string s] w fun e w' => e = .returned (.int .u32 (Crc.more x s.data.toList)) ∧ w = w' := by
  unfold maxLen at hs
  go_enter Try.func37, Try.ntmps37
  have hcomp := Crc.comp_bits hx
  go_wp2_with fail
  go_loop [5, 11] (fun r i => ∃ k : Nat, k ≤ s.size ∧ i = .int .i64 k ∧ r = .int .u32 (Crc.raw (Crc.comp x) (s.data.toList.take k))) (fun _ i => s.size - (intOf i).toNat)
  case atStart => exact ⟨0, by omega, rfl, rfl⟩
  case round =>
    obtain ⟨k, hk, rfl, rfl⟩ := hrel
    have hy := Crc.raw_lt (s.data.toList.take k) (Crc.comp_lt x)
    have hcomp2 := Crc.comp_bits hy
    by_cases hlt : k < s.size
    · have hb := Crc.xor_byte hy s[k]
      have H := Lib.hid (Crc.raw_snoc (Crc.comp x) s k hlt)
      go_wp2_with (go_at_call 42; refine (step_any _ (Crc.xor_lt hy (by have := s[k].toNat_lt; omega)) _).mono ?_; rintro e w' ⟨rfl, rfl⟩)
      go_round
      case rel => exact ⟨k + 1, by omega, by go_num, by rw [H.out]; rfl⟩
      case measure => simp [intOf]; omega
    · go_wp2_with fail
      go_ret
      obtain rfl : k = s.size := by omega
      have e1 : s.data.toList.take s.size = s.data.toList := List.take_of_length_le (by simp)
      exact ⟨by rw [e1]; rfl, rfl⟩

set_option maxHeartbeats 400000 in
theorem sum_none (ao : Option Addr) (cap : Nat) (w : World) :
    Calls Try.prog 28 #[.slice ao 0 cap] w fun e w' => e = .returned (.int .u32 0) ∧ w = w' := by
  go_enter Try.func28, Try.ntmps28
  go_wp2_with fail
  refine wp_loop_rounds 1 ?_
  rw [rounds_succ]
  go_wp2_with fail
  go_ret
  exact ⟨rfl, rfl⟩
set_option maxHeartbeats 400000 in
theorem sum_some (b off cap : Nat) (ss : List ByteArray) (w : World) (hf : StrsFit ss cap)
    (hc : ∀ i, i < ss.length → w.cell? ⟨b, off + i, none⟩ = some (.string (ss.getD i ByteArray.empty))) :
    Calls Try.prog 28 #[.slice (some ⟨b, off, none⟩) ss.length cap] w fun e w' => e = .returned (.int .u32 (Crc.sumL ss)) ∧ w = w' := by
  have hm : ss.length ≤ 9223372036854775807 := by have h1 := hf.1; have h2 := hf.2.1; unfold maxLen at h2; omega
  have HC := Lib.hid hc
  clear hc
  obtain ⟨n, hn⟩ : ∃ n, n = ss.length := ⟨_, rfl⟩
  rw [← hn] at hm ⊢
  have HN := Lib.hid hn
  clear hn
  go_enter Try.func28, Try.ntmps28
  go_wp2_with fail
  go_loop [3, 8] (fun r i => ∃ k : Nat, k ≤ n ∧ i = .int .i64 k ∧ r = .int .u32 (Crc.sumL (ss.take k))) (fun _ i => n - (intOf i).toNat)
  case atStart => exact ⟨0, by omega, rfl, rfl⟩
  case round =>
    obtain ⟨k, hk, rfl, rfl⟩ := hrel
    have hy := Crc.sumL_lt (ss.take k)
    by_cases hlt : k < n
    · obtain ⟨s, hs⟩ : ∃ s, s = ss.getD k ByteArray.empty := ⟨_, rfl⟩
      have hcell := HC.out k (by rw [← HN.out]; exact hlt)
      have H := Lib.hid (Crc.sumL_take ss k (by rw [← HN.out]; exact hlt))
      have hsz := getD_fit hf k
      rw [← hs] at hcell hsz
      have HS := Lib.hid hs
      clear hs
      go_wp2_with (go_at_call 37; refine (more_any _ hy _ hsz _).mono ?_; rintro e w' ⟨rfl, rfl⟩)
      go_round
      case rel => exact ⟨k + 1, by omega, by go_num, by rw [H.out, ← HS.out]⟩
      case measure => simp [intOf]; omega
    · go_wp2_with fail
      go_ret
      obtain rfl : k = n := by omega
      have e1 : ss.take k = ss := List.take_of_length_le (by rw [HN.out]; omega)
      exact ⟨by rw [e1]; rfl, rfl⟩
/-- crc.Sum of texts. -/
theorem sum_any (ao : Option Addr) (cap : Nat) (ss : List ByteArray) (w : World) (hf : StrsFit ss cap) (hc : StrsAt w ao ss) :
    Calls Try.prog 28 #[.slice ao ss.length cap] w fun e w' => e = .returned (.int .u32 (Crc.sumL ss)) ∧ w = w' := by
  by_cases h : ss = []
  · subst h; exact sum_none ao cap w
  · obtain ⟨b, off, rfl, _, hc'⟩ := strs_at hc h
    exact sum_some b off cap ss w hf hc'
theorem sum_at (ao : Option Addr) (n cap : Nat) (ss : List ByteArray) (w : World) (hn : n = ss.length) (hf : StrsFit ss cap) (hc : StrsAt w ao ss) :
    Calls Try.prog 28 #[.slice ao n cap] w fun e w' => e = .returned (.int .u32 (Crc.sumL ss)) ∧ w = w' := by
  subst hn; exact sum_any ao cap ss w hf hc
end Go.Proofs.Ytbhadaiijcdlkaa
