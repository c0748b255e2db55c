/- The walk over math/bits.RotateLeft32 at the turns that digests make. -/
import Derived.Test.YtbajgpbekanodaaProg
import Derived.WalkKit
import Derived.WalkSpells
import Derived.WalkLawsBesides
import Derived.Lib.Hide
import Derived.Outline
import Derived.Test.YtbajgpbekanodaaShaMath
namespace Go.Proofs.Ytbajgpbekanodaa
open Go.RowKit

theorem rot_or (x n k : Nat) (hx : x < 4294967296) (hn : n + k = 32) (h1 : 1 ≤ k) : bits BinOp.or IntKind.u32 ((x : Int) * 2 ^ n % 4294967296) ((x : Int) / 2 ^ k) = ((Sha.rotr x k : Nat) : Int) := by
  have h2 : x / 2 ^ k < 4294967296 := Nat.lt_of_le_of_lt (Nat.div_le_self _ _) hx
  have h3 := u32_or_nat (x * 2 ^ n % 4294967296) (x / 2 ^ k) (Nat.mod_lt _ (by omega)) h2
  have e1 : ((x * 2 ^ n % 4294967296 : Nat) : Int) = (x : Int) * 2 ^ n % 4294967296 := by simp
  have e2 : ((x / 2 ^ k : Nat) : Int) = (x : Int) / 2 ^ k := by simp
  rw [← e1, ← e2, h3]
  unfold Sha.rotr
  rw [show 32 - k = n by omega, Nat.or_comm]

set_option maxRecDepth 100000 in
set_option maxHeartbeats 400000 in
theorem rotl_any (x n k : Nat) (hx : x < 4294967296) (c : Int) (_ : -9223372036854775808 ≤ c ∧ c ≤ 9223372036854775807) (hb : bits BinOp.and IntKind.u64 (IntKind.u64.wrap c) 31 = (n : Int)) (hn : n + k = 32) (h1 : 1 ≤ n) (h2 : n ≤ 31) (w : World) :
    Calls Try.prog 94 #[.int .u32 (x : Int), .int .i64 c] w fun e w' => e = .returned (.int .u32 (Sha.rotr x k : Nat)) ∧ w = w' := by
  have H := Lib.hid (rot_or x n k hx hn (by omega))
  have HK : Hid (32 - n = k) := by show _ = _; omega
  have hx2 : (x : Int) < 4294967296 := by omega
  have g1 : 1 ≤ (n : Int) := by omega
  have g2 : (n : Int) ≤ 31 := by omega
  clear hn hx
  go_enter Try.func94, Try.ntmps94
  go_wp2_with fail
  go_ret
  refine ⟨?_, rfl⟩
  rw [← H.out, ← HK.out]
  rfl
/-! The turns. -/
theorem turn_2 (x : Nat) (hx : x < 4294967296) (w : World) : Calls Try.prog 94 #[.int .u32 (x : Int), .int .i64 (-2)] w fun e w' => e = .returned (.int .u32 (Sha.rotr x 2 : Nat)) ∧ w = w' :=
  rotl_any x 30 2 hx (-2) (by decide) (by decide) (by decide) (by decide) (by decide) w
theorem turn_6 (x : Nat) (hx : x < 4294967296) (w : World) : Calls Try.prog 94 #[.int .u32 (x : Int), .int .i64 (-6)] w fun e w' => e = .returned (.int .u32 (Sha.rotr x 6 : Nat)) ∧ w = w' :=
  rotl_any x 26 6 hx (-6) (by decide) (by decide) (by decide) (by decide) (by decide) w
theorem turn_7 (x : Nat) (hx : x < 4294967296) (w : World) : Calls Try.prog 94 #[.int .u32 (x : Int), .int .i64 (-7)] w fun e w' => e = .returned (.int .u32 (Sha.rotr x 7 : Nat)) ∧ w = w' :=
  rotl_any x 25 7 hx (-7) (by decide) (by decide) (by decide) (by decide) (by decide) w
theorem turn_11 (x : Nat) (hx : x < 4294967296) (w : World) : Calls Try.prog 94 #[.int .u32 (x : Int), .int .i64 (-11)] w fun e w' => e = .returned (.int .u32 (Sha.rotr x 11 : Nat)) ∧ w = w' :=
  rotl_any x 21 11 hx (-11) (by decide) (by decide) (by decide) (by decide) (by decide) w
theorem turn_13 (x : Nat) (hx : x < 4294967296) (w : World) : Calls Try.prog 94 #[.int .u32 (x : Int), .int .i64 (-13)] w fun e w' => e = .returned (.int .u32 (Sha.rotr x 13 : Nat)) ∧ w = w' :=
  rotl_any x 19 13 hx (-13) (by decide) (by decide) (by decide) (by decide) (by decide) w
theorem turn_17 (x : Nat) (hx : x < 4294967296) (w : World) : Calls Try.prog 94 #[.int .u32 (x : Int), .int .i64 (-17)] w fun e w' => e = .returned (.int .u32 (Sha.rotr x 17 : Nat)) ∧ w = w' :=
  rotl_any x 15 17 hx (-17) (by decide) (by decide) (by decide) (by decide) (by decide) w
theorem turn_18 (x : Nat) (hx : x < 4294967296) (w : World) : Calls Try.prog 94 #[.int .u32 (x : Int), .int .i64 (-18)] w fun e w' => e = .returned (.int .u32 (Sha.rotr x 18 : Nat)) ∧ w = w' :=
  rotl_any x 14 18 hx (-18) (by decide) (by decide) (by decide) (by decide) (by decide) w
theorem turn_19 (x : Nat) (hx : x < 4294967296) (w : World) : Calls Try.prog 94 #[.int .u32 (x : Int), .int .i64 (-19)] w fun e w' => e = .returned (.int .u32 (Sha.rotr x 19 : Nat)) ∧ w = w' :=
  rotl_any x 13 19 hx (-19) (by decide) (by decide) (by decide) (by decide) (by decide) w
theorem turn_22 (x : Nat) (hx : x < 4294967296) (w : World) : Calls Try.prog 94 #[.int .u32 (x : Int), .int .i64 (-22)] w fun e w' => e = .returned (.int .u32 (Sha.rotr x 22 : Nat)) ∧ w = w' :=
  rotl_any x 10 22 hx (-22) (by decide) (by decide) (by decide) (by decide) (by decide) w
theorem turn_25 (x : Nat) (hx : x < 4294967296) (w : World) : Calls Try.prog 94 #[.int .u32 (x : Int), .int .i64 (-25)] w fun e w' => e = .returned (.int .u32 (Sha.rotr x 25 : Nat)) ∧ w = w' :=
  rotl_any x 7 25 hx (-25) (by decide) (by decide) (by decide) (by decide) (by decide) w
end Go.Proofs.Ytbajgpbekanodaa
