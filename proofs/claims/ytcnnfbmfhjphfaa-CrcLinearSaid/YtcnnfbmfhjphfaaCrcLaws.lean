/- The walks over the document's answer (pandectref02), over small and awake, and over the laws CrcMores, CrcSums, CrcParts. -/
import Derived.Test.YtcnnfbmfhjphfaaCrcStep
namespace Go.Proofs.Ytcnnfbmfhjphfaa
open Go.RowKit

set_option maxHeartbeats 400000 in
theorem in_any (x : Nat) (hx : x < 4294967296) (b : UInt8) (w : World) :
    Calls Try.prog 35 #[.int .u32 x, .int .u8 (b.toNat : Int)] w fun e w' => e = .returned (.int .u32 (Crc.byte x b)) ∧ w = w' := by
  have hb := b.toNat_lt
  go_enter Try.func35, Try.ntmps35
  go_wp2
  go_loop [0, 5] (fun r i => ∃ k : Nat, k ≤ 8 ∧ i = .int .i64 k ∧ r = .int .u32 (Crc.ins b.toNat k x)) (fun _ i => 8 - (intOf i).toNat)
  case atStart => exact ⟨0, by omega, rfl, rfl⟩
  case round =>
    obtain ⟨k, hk, rfl, rfl⟩ := hrel
    have hy := Crc.ins_lt b.toNat k hx
    go_wp2
    · have h : (bits BinOp.and IntKind.u32 ((Crc.ins b.toNat k x : Nat) : Int) 1 != bits BinOp.and IntKind.u32 ((b.toNat : Int) / 2 ^ k % 4294967296) 1) = true := by assumption
      go_round
      case rel => exact ⟨k + 1, by omega, by go_num, by rw [Crc.in_yes hy hb h]; rfl⟩
      case measure => simp [intOf]; omega
    · have h : (bits BinOp.and IntKind.u32 ((Crc.ins b.toNat k x : Nat) : Int) 1 != bits BinOp.and IntKind.u32 ((b.toNat : Int) / 2 ^ k % 4294967296) 1) = false := by assumption
      go_round
      case rel => exact ⟨k + 1, by omega, by go_num, by rw [Crc.in_no hy hb h]; rfl⟩
      case measure => simp [intOf]; omega
    · go_ret
      obtain rfl : k = 8 := by omega
      exact ⟨by rw [Crc.byte_ins]; rfl, rfl⟩

set_option maxHeartbeats 400000 in
theorem refMore_any (x : Nat) (hx : x < 4294967296) (s : ByteArray) (hs : s.size ≤ maxLen) (w : World) :
    Calls Try.prog 20 #[.int .u32 x, .string s] w fun e w' => e = .returned (.int .u32 (Crc.more x s.data.toList)) ∧ w = w' := by
  unfold maxLen at hs
  have hcomp := Crc.comp_bits hx
  go_enter Try.func20, Try.ntmps20
  go_wp2_with fail
  go_loop [5, 6] (fun r i => ∃ k : Nat, k ≤ s.size ∧ i = .int .i64 k ∧ r = .int .u32 (Crc.raw (Crc.comp x) (s.data.toList.take k))) (fun _ i => s.size - (intOf i).toNat)
  case atStart => exact ⟨0, by omega, rfl, rfl⟩
  case round =>
    obtain ⟨k, hk, rfl, rfl⟩ := hrel
    have hy := Crc.raw_lt (s.data.toList.take k) (Crc.comp_lt x)
    have hcomp2 := Crc.comp_bits hy
    by_cases hlt : k < s.size
    · have H := Lib.hid (Crc.raw_snoc (Crc.comp x) s k hlt)
      go_wp2_with (go_at_call 35; refine (in_any _ hy _ _).mono ?_; rintro e w' ⟨rfl, rfl⟩)
      go_round
      case rel => exact ⟨k + 1, by omega, by go_num, by rw [H.out]⟩
      case measure => simp [intOf]; omega
    · go_wp2_with fail
      go_ret
      obtain rfl : k = s.size := by omega
      have e1 : s.data.toList.take s.size = s.data.toList := List.take_of_length_le (by simp)
      exact ⟨by rw [e1]; rfl, rfl⟩

set_option maxHeartbeats 400000 in
theorem refSum_none (ao : Option Addr) (cap : Nat) (w : World) :
    Calls Try.prog 17 #[.slice ao 0 cap] w fun e w' => e = .returned (.int .u32 0) ∧ w = w' := by
  have hcomp : bits BinOp.xor IntKind.u32 IntKind.u32.max 4294967295 = 0 := by decide
  go_enter Try.func17, Try.ntmps17
  go_wp2_with fail
  refine wp_loop_rounds 1 ?_
  rw [rounds_succ]
  go_wp2_with fail
  go_ret
  exact ⟨rfl, rfl⟩

set_option maxHeartbeats 1000000 in
theorem refSum_some (b off cap : Nat) (ss : List ByteArray) (w : World) (hf : StrsFit ss cap)
    (hc : ∀ i, i < ss.length → w.cell? ⟨b, off + i, none⟩ = some (.string (ss.getD i ByteArray.empty))) :
    Calls Try.prog 17 #[.slice (some ⟨b, off, none⟩) ss.length cap] w fun e w' => e = .returned (.int .u32 (Crc.sumL ss)) ∧ w = w' := by
  have hm : ss.length ≤ 9223372036854775807 := by have h1 := hf.1; have h2 := hf.2.1; unfold maxLen at h2; omega
  have HC := Lib.hid hc
  clear hc
  obtain ⟨n, hn⟩ : ∃ n, n = ss.length := ⟨_, rfl⟩
  rw [← hn] at hm ⊢
  have HN := Lib.hid hn
  clear hn
  go_enter Try.func17, Try.ntmps17
  go_wp2_with fail
  go_loop [3, 4, 5] (fun r i _ => ∃ k : Nat, k ≤ n ∧ i = .int .i64 k ∧ r = .int .u32 (Crc.rawL 4294967295 (ss.take k))) (fun _ i _ => n - (intOf i).toNat)
  case atStart => exact ⟨0, by omega, rfl, rfl⟩
  case round =>
    obtain ⟨k, hk, rfl, rfl⟩ := hrel
    have hy := Crc.rawL_lt (show 4294967295 < 4294967296 by omega) (ss.take k)
    have hcomp2 := Crc.comp_bits hy
    by_cases hlt : k < n
    · obtain ⟨s, hs⟩ : ∃ s, s = ss.getD k ByteArray.empty := ⟨_, rfl⟩
      have hcell := HC.out k (by rw [← HN.out]; exact hlt)
      have H := Lib.hid (Crc.rawL_take 4294967295 ss k (by rw [← HN.out]; exact hlt))
      have hsz := getD_fit hf k
      rw [← hs] at hcell hsz
      unfold maxLen at hsz
      have HS := Lib.hid hs
      clear hs hcomp2
      go_wp2_with fail
      go_loop [3, 5] (fun r i => ∃ j : Nat, j ≤ s.size ∧ i = .int .i64 j ∧ r = .int .u32 (Crc.raw (Crc.rawL 4294967295 (ss.take k)) (s.data.toList.take j))) (fun _ i => s.size - (intOf i).toNat)
      case atStart => exact ⟨0, by omega, rfl, rfl⟩
      case round =>
        obtain ⟨j, hj, rfl, rfl⟩ := hrel
        have hz := Crc.raw_lt (s.data.toList.take j) hy
        by_cases hjt : j < s.size
        · have H2 := Lib.hid (Crc.raw_snoc (Crc.rawL 4294967295 (ss.take k)) s j hjt)
          go_wp2_with (go_at_call 35; refine (in_any _ hz _ _).mono ?_; rintro e w' ⟨rfl, rfl⟩)
          go_round
          case rel => exact ⟨j + 1, by omega, by go_num, by rw [H2.out]⟩
          case measure => simp [intOf]; omega
        · have e1 : s.data.toList.take j = s.data.toList := List.take_of_length_le (by simp; omega)
          rw [e1] at hz ⊢
          clear e1
          go_wp2_with fail
          go_round
          case rel => exact ⟨k + 1, by omega, by go_num, by rw [H.out, ← HS.out]⟩
          case measure => simp [intOf]; omega
    · go_wp2_with fail
      go_ret
      obtain rfl : k = n := by omega
      have e1 : ss.take k = ss := List.take_of_length_le (by rw [HN.out]; omega)
      exact ⟨by rw [e1, ← Crc.rawL_sum]; rfl, rfl⟩
theorem refSum_any (ao : Option Addr) (cap : Nat) (ss : List ByteArray) (w : World) (hf : StrsFit ss cap) (hc : StrsAt w ao ss) :
    Calls Try.prog 17 #[.slice ao ss.length cap] w fun e w' => e = .returned (.int .u32 (Crc.sumL ss)) ∧ w = w' := by
  by_cases h : ss = []
  · subst h; exact refSum_none ao cap w
  · obtain ⟨b, off, rfl, _, hc'⟩ := strs_at hc h
    exact refSum_some b off cap ss w hf hc'

set_option maxHeartbeats 400000 in
theorem small_none (ao : Option Addr) (cap : Nat) (w : World) :
    Calls Try.prog 15 #[.slice ao 0 cap] w fun e w' => e = .returned (.bool (Crc.smallB [])) ∧ w = w' := by
  have e1 : Crc.smallB [] = true := by decide
  go_enter Try.func15, Try.ntmps15
  go_wp2_with fail
  refine wp_loop_rounds 1 ?_
  rw [rounds_succ]
  go_wp2_with fail
  go_ret
  exact ⟨rfl, rfl⟩
set_option maxHeartbeats 1000000 in
theorem small_some (b off cap : Nat) (ss : List ByteArray) (w : World) (hf : StrsFit ss cap)
    (hc : ∀ i, i < ss.length → w.cell? ⟨b, off + i, none⟩ = some (.string (ss.getD i ByteArray.empty))) :
    Calls Try.prog 15 #[.slice (some ⟨b, off, none⟩) ss.length cap] w fun e w' => e = .returned (.bool (Crc.smallB ss)) ∧ w = w' := by
  have hm : ss.length ≤ 9223372036854775807 := by have h1 := hf.1; have h2 := hf.2.1; unfold maxLen at h2; omega
  have HC := Lib.hid hc
  clear hc
  obtain ⟨n, hn⟩ : ∃ n, n = ss.length := ⟨_, rfl⟩
  rw [← hn] at hm ⊢
  have HN := Lib.hid hn
  clear hn
  go_enter Try.func15, Try.ntmps15
  go_wp2_with fail
  go_loop [3, 4] (fun r i => ∃ k : Nat, k ≤ n ∧ i = .int .i64 k ∧ r = .int .i64 (Crc.wt (ss.take k)) ∧ Crc.wt (ss.take k) ≤ 100000) (fun _ i => n - (intOf i).toNat)
  case atStart => exact ⟨0, by omega, rfl, rfl, by simp [Crc.wt]⟩
  case round =>
    obtain ⟨k, hk, rfl, rfl, hwt⟩ := hrel
    by_cases hlt : k < n
    · obtain ⟨s, hs⟩ : ∃ s, s = ss.getD k ByteArray.empty := ⟨_, rfl⟩
      have hcell := HC.out k (by rw [← HN.out]; exact hlt)
      have H := Lib.hid (Crc.wt_take ss k (by rw [← HN.out]; exact hlt))
      have hsz := getD_fit hf k
      rw [← hs] at hcell hsz
      unfold maxLen at hsz
      have HS := Lib.hid hs
      clear hs
      go_wp2_with fail
      case roundEnd =>
        have h : (Crc.wt (ss.take k) : Int) + ((if 100000 < (s.size : Int) then 100000 else (s.size : Int)) + 1) ≤ 100000 := by assumption
        go_round
        case rel => exact ⟨k + 1, by omega, by go_num, by rw [H.out, ← HS.out, Crc.if_min]; go_num, by rw [H.out, ← HS.out]; rw [Crc.if_min] at h; omega⟩
        case measure => simp [intOf]; omega
      all_goals
        have h : (100000 : Int) < (Crc.wt (ss.take k) : Int) + ((if 100000 < (s.size : Int) then 100000 else (s.size : Int)) + 1) := by assumption
        rw [Crc.if_min] at h
        go_ret
        exact ⟨by rw [Crc.small_no ss (k + 1) (by rw [H.out, ← HS.out]; omega)]; rfl, rfl⟩
    · go_wp2_with fail
      go_ret
      obtain rfl : k = n := by omega
      have e1 : ss.take k = ss := List.take_of_length_le (by rw [HN.out]; omega)
      rw [e1] at hwt
      exact ⟨by rw [Crc.small_yes ss hwt]; rfl, rfl⟩

set_option maxHeartbeats 1000000 in
theorem awake_any (w : World) :
    Calls Try.prog 18 #[] w fun e w' => e = .returned (.bool true) ∧ Below w.heap.size w w' := by
  have e1 : ((Crc.sumL [⟨#[49, 50, 51, 52, 53, 54, 55, 56, 57]⟩] : Nat) : Int) = 3808858755 := by decide +kernel
  have e2 : ((Crc.sumL [⟨#[49, 50, 51, 52]⟩, ⟨#[53, 54, 55, 56, 57]⟩] : Nat) : Int) = 3808858755 := by decide +kernel
  have e3 : ((Crc.sumL [] : Nat) : Int) = 0 := rfl
  have f1 : StrsFit [⟨#[49, 50, 51, 52, 53, 54, 55, 56, 57]⟩] 1 := ⟨by simp, by simp [maxLen], by decide⟩
  have f2 : StrsFit [⟨#[49, 50, 51, 52]⟩, ⟨#[53, 54, 55, 56, 57]⟩] 2 := ⟨by simp, by simp [maxLen], by decide⟩
  have f3 : StrsFit [] 0 := ⟨by simp, by simp [maxLen], by simp⟩
  go_enter Try.func18, Try.ntmps18
  go_wp2_with fail
  refine (sum_at _ 1 1 [⟨#[49, 50, 51, 52, 53, 54, 55, 56, 57]⟩] _ rfl f1 (strs_new _ _ _ _ rfl _ rfl)).mono ?_
  rintro e w' ⟨rfl, rfl⟩
  go_wp2_with fail
  refine (sum_at _ 2 2 [⟨#[49, 50, 51, 52]⟩, ⟨#[53, 54, 55, 56, 57]⟩] _ rfl f2 (strs_new _ _ _ _ (by simp) _ rfl)).mono ?_
  rintro e w' ⟨rfl, rfl⟩
  go_wp2_with fail
  refine (sum_at _ 0 0 [] _ rfl f3 (fun i hi => by simp at hi)).mono ?_
  rintro e w' ⟨rfl, rfl⟩
  go_wp2_with fail
  go_ret
  exact ⟨rfl, ((Below.refl _ _).alloc (Nat.le_refl _) _).alloc (by simp) _⟩
theorem small_any (ao : Option Addr) (cap : Nat) (ss : List ByteArray) (w : World) (hf : StrsFit ss cap) (hc : StrsAt w ao ss) :
    Calls Try.prog 15 #[.slice ao ss.length cap] w fun e w' => e = .returned (.bool (Crc.smallB ss)) ∧ w = w' := by
  by_cases h : ss = []
  · subst h; exact small_none ao cap w
  · obtain ⟨b, off, rfl, _, hc'⟩ := strs_at hc h
    exact small_some b off cap ss w hf hc'

set_option maxHeartbeats 400000 in
theorem crcMores_walk (x : Nat) (s : ByteArray) (w : World) (hx : x < 4294967296) (hs : s.size ≤ 140737488351232) :
    Calls Try.prog 4 #[.int .u32 x, .string s] w fun e w' => e = .returned (.bool true) ∧ Below w.heap.size w w' := by
  have hs' : s.size ≤ maxLen := by unfold maxLen; omega
  by_cases hb : 100000 < s.size
  · go_enter Try.func4, Try.ntmps4
    go_wp2_with (go_at_call 18; refine (awake_any _).mono ?_; rintro e w' ⟨rfl, hbel⟩)
    go_ret
    exact ⟨rfl, ‹_›⟩
  · go_enter Try.func4, Try.ntmps4
    go_wp2_with (first | (go_at_call 18; refine (awake_any _).mono ?_; rintro e w' ⟨rfl, hbel⟩) | (go_at_call 19; refine (more_any x hx s hs' _).mono ?_; rintro e w' ⟨rfl, rfl⟩) | (go_at_call 20; refine (refMore_any x hx s hs' _).mono ?_; rintro e w' ⟨rfl, rfl⟩))
    go_ret
    exact ⟨rfl, ‹_›⟩

set_option maxHeartbeats 400000 in
theorem crcSums_walk (ao : Option Addr) (cap : Nat) (ss : List ByteArray) (w : World) (hf : StrsFit ss cap) (hc : StrsAt w ao ss) (_ : cap * 16 ≤ 140737488351232) :
    Calls Try.prog 3 #[.slice ao ss.length cap] w fun e w' => e = .returned (.bool true) ∧ Below w.heap.size w w' := by
  by_cases hb : Crc.smallB ss = true
  · go_enter Try.func3, Try.ntmps3
    go_wp2_with (first | (go_at_call 18; refine (awake_any _).mono ?_; rintro e w' ⟨rfl, hbel⟩) | (go_at_call 15; refine (small_any ao cap ss _ hf hc).mono ?_; rintro e w' ⟨rfl, rfl⟩) | (go_at_call 16; refine (sum_any ao cap ss _ hf hc).mono ?_; rintro e w' ⟨rfl, rfl⟩) | (go_at_call 17; refine (refSum_any ao cap ss _ hf hc).mono ?_; rintro e w' ⟨rfl, rfl⟩))
    go_ret
    exact ⟨rfl, ‹_›⟩
  · have hb' : Crc.smallB ss = false := by simpa using hb
    clear hb
    go_enter Try.func3, Try.ntmps3
    go_wp2_with (first | (go_at_call 18; refine (awake_any _).mono ?_; rintro e w' ⟨rfl, hbel⟩) | (go_at_call 15; refine (small_any ao cap ss _ hf hc).mono ?_; rintro e w' ⟨rfl, rfl⟩))
    go_ret
    exact ⟨rfl, ‹_›⟩
end Go.Proofs.Ytcnnfbmfhjphfaa
