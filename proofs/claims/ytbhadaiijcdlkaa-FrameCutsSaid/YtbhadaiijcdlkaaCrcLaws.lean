/- The walks over the document's answer (pandectref02), over small and awake, and over the laws CrcMores, CrcSums, CrcParts. -/
import Derived.Test.YtbhadaiijcdlkaaCrcStep
namespace Go.Proofs.Ytbhadaiijcdlkaa
open Go.RowKit

set_option maxHeartbeats 400000 in
theorem in_any (x : Nat) (hx : x < 4294967296) (b : UInt8) (w : World) :
    Calls Try.prog 39 #[.int .u32 x, .int .u8 (b.toNat : Int)] w fun e w' => e = .returned (.int .u32 (Crc.byte x b)) ∧ w = w' := by
  have hb := b.toNat_lt
  go_enter Try.func39, Try.ntmps39
  go_wp2
  go_loop [0, 5] (fun r i => ∃ k : Nat, k ≤ 8 ∧ i = .int .i64 k ∧ r = .int .u32 (Crc.ins b.toNat k x)) (fun _ i => 8 - (intOf i).toNat)
  case atStart => exact ⟨0, by omega, rfl, rfl⟩
  case round =>
    obtain ⟨k, hk, rfl, rfl⟩ := hrel
    have hy := Crc.ins_lt b.toNat k hx
    go_wp2
    · have h : (bits BinOp.and IntKind.u32 ((Crc.ins b.toNat k x : Nat) : Int) 1 != bits BinOp.and IntKind.u32 ((b.toNat : Int) / 2 ^ k % 4294967296) 1) = true := by assumption
      go_round
      case rel => exact ⟨k + 1, by omega, by go_num, by rw [Crc.in_yes hy hb h]; rfl⟩
      case measure => simp [intOf]; omega
    · have h : (bits BinOp.and IntKind.u32 ((Crc.ins b.toNat k x : Nat) : Int) 1 != bits BinOp.and IntKind.u32 ((b.toNat : Int) / 2 ^ k % 4294967296) 1) = false := by assumption
      go_round
      case rel => exact ⟨k + 1, by omega, by go_num, by rw [Crc.in_no hy hb h]; rfl⟩
      case measure => simp [intOf]; omega
    · go_ret
      obtain rfl : k = 8 := by omega
      exact ⟨by rw [Crc.byte_ins]; rfl, rfl⟩

set_option maxHeartbeats 400000 in
theorem refSum_none (ao : Option Addr) (cap : Nat) (w : World) :
    Calls Try.prog 31 #[.slice ao 0 cap] w fun e w' => e = .returned (.int .u32 0) ∧ w = w' := by
  have hcomp : bits BinOp.xor IntKind.u32 IntKind.u32.max 4294967295 = 0 := by decide
  go_enter Try.func31, Try.ntmps31
  go_wp2_with fail
  refine wp_loop_rounds 1 ?_
  rw [rounds_succ]
  go_wp2_with fail
  go_ret
  exact ⟨rfl, rfl⟩

set_option maxHeartbeats 1000000 in
theorem refSum_some (b off cap : Nat) (ss : List ByteArray) (w : World) (hf : StrsFit ss cap)
    (hc : ∀ i, i < ss.length → w.cell? ⟨b, off + i, none⟩ = some (.string (ss.getD i ByteArray.empty))) :
    Calls Try.prog 31 #[.slice (some ⟨b, off, none⟩) ss.length cap] w fun e w' => e = .returned (.int .u32 (Crc.sumL ss)) ∧ w = w' := by
  have hm : ss.length ≤ 9223372036854775807 := by have h1 := hf.1; have h2 := hf.2.1; unfold maxLen at h2; omega
  have HC := Lib.hid hc
  clear hc
  obtain ⟨n, hn⟩ : ∃ n, n = ss.length := ⟨_, rfl⟩
  rw [← hn] at hm ⊢
  have HN := Lib.hid hn
  clear hn
  go_enter Try.func31, Try.ntmps31
  go_wp2_with fail
  go_loop [3, 4, 5] (fun r i _ => ∃ k : Nat, k ≤ n ∧ i = .int .i64 k ∧ r = .int .u32 (Crc.rawL 4294967295 (ss.take k))) (fun _ i _ => n - (intOf i).toNat)
  case atStart => exact ⟨0, by omega, rfl, rfl⟩
  case round =>
    obtain ⟨k, hk, rfl, rfl⟩ := hrel
    have hy := Crc.rawL_lt (show 4294967295 < 4294967296 by omega) (ss.take k)
    have hcomp2 := Crc.comp_bits hy
    by_cases hlt : k < n
    · obtain ⟨s, hs⟩ : ∃ s, s = ss.getD k ByteArray.empty := ⟨_, rfl⟩
      have hcell := HC.out k (by rw [← HN.out]; exact hlt)
      have H := Lib.hid (Crc.rawL_take 4294967295 ss k (by rw [← HN.out]; exact hlt))
      have hsz := getD_fit hf k
      rw [← hs] at hcell hsz
      unfold maxLen at hsz
      have HS := Lib.hid hs
      clear hs hcomp2
      go_wp2_with fail
      go_loop [3, 5] (fun r i => ∃ j : Nat, j ≤ s.size ∧ i = .int .i64 j ∧ r = .int .u32 (Crc.raw (Crc.rawL 4294967295 (ss.take k)) (s.data.toList.take j))) (fun _ i => s.size - (intOf i).toNat)
      case atStart => exact ⟨0, by omega, rfl, rfl⟩
      case round =>
        obtain ⟨j, hj, rfl, rfl⟩ := hrel
        have hz := Crc.raw_lt (s.data.toList.take j) hy
        by_cases hjt : j < s.size
        · have H2 := Lib.hid (Crc.raw_snoc (Crc.rawL 4294967295 (ss.take k)) s j hjt)
          go_wp2_with (go_at_call 39; refine (in_any _ hz _ _).mono ?_; rintro e w' ⟨rfl, rfl⟩)
          go_round
          case rel => exact ⟨j + 1, by omega, by go_num, by rw [H2.out]⟩
          case measure => simp [intOf]; omega
        · have e1 : s.data.toList.take j = s.data.toList := List.take_of_length_le (by simp; omega)
          rw [e1] at hz ⊢
          clear e1
          go_wp2_with fail
          go_round
          case rel => exact ⟨k + 1, by omega, by go_num, by rw [H.out, ← HS.out]⟩
          case measure => simp [intOf]; omega
    · go_wp2_with fail
      go_ret
      obtain rfl : k = n := by omega
      have e1 : ss.take k = ss := List.take_of_length_le (by rw [HN.out]; omega)
      exact ⟨by rw [e1, ← Crc.rawL_sum]; rfl, rfl⟩
theorem refSum_any (ao : Option Addr) (cap : Nat) (ss : List ByteArray) (w : World) (hf : StrsFit ss cap) (hc : StrsAt w ao ss) :
    Calls Try.prog 31 #[.slice ao ss.length cap] w fun e w' => e = .returned (.int .u32 (Crc.sumL ss)) ∧ w = w' := by
  by_cases h : ss = []
  · subst h; exact refSum_none ao cap w
  · obtain ⟨b, off, rfl, _, hc'⟩ := strs_at hc h
    exact refSum_some b off cap ss w hf hc'

end Go.Proofs.Ytbhadaiijcdlkaa
