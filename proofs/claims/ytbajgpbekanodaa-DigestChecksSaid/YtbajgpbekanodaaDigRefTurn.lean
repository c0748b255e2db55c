/- The walk over the document's turn. -/
import Derived.Test.YtbajgpbekanodaaDigRot
namespace Go.Proofs.Ytbajgpbekanodaa
open Go.RowKit

theorem turn_or (x n k : Nat) (hx : x < 4294967296) (hn : n + k = 32) (h1 : 1 ≤ k) : bits BinOp.or IntKind.u32 ((x : Int) / 2 ^ k) ((x : Int) * 2 ^ n % 4294967296) = ((Sha.rotr x k : Nat) : Int) := by
  have h2 : x / 2 ^ k < 4294967296 := Nat.lt_of_le_of_lt (Nat.div_le_self _ _) hx
  have h3 := u32_or_nat (x / 2 ^ k) (x * 2 ^ n % 4294967296) h2 (Nat.mod_lt _ (by omega))
  have e1 : ((x * 2 ^ n % 4294967296 : Nat) : Int) = (x : Int) * 2 ^ n % 4294967296 := by simp
  have e2 : ((x / 2 ^ k : Nat) : Int) = (x : Int) / 2 ^ k := by simp
  rw [← e1, ← e2, h3]
  unfold Sha.rotr
  rw [show 32 - k = n by omega]

set_option maxRecDepth 100000 in
set_option maxHeartbeats 400000 in
theorem refTurn_any (x k n : Nat) (hx : x < 4294967296) (hn : n + k = 32) (h1 : 1 ≤ k) (h2 : k ≤ 31) (w : World) :
    Calls Try.prog 84 #[.int .u32 (x : Int), .int .u64 (k : Int)] w fun e w' => e = .returned (.int .u32 (Sha.rotr x k : Nat)) ∧ w = w' := by
  have H := Lib.hid (turn_or x n k hx hn h1)
  have HK : Hid (32 - k = n) := by show _ = _; omega
  have hx2 : (x : Int) < 4294967296 := by omega
  have g1 : 1 ≤ (k : Int) := by omega
  have g2 : (k : Int) ≤ 31 := by omega
  have q1 : IntKind.u64.wrap (32 - (k : Int)) = 32 - (k : Int) := IntWalk.u64_in _ ⟨by omega, by omega⟩
  have q2 : (32 - (k : Int)).toNat = n := by omega
  clear hn hx
  go_enter Try.func84, Try.ntmps84
  go_wp2_with fail
  go_ret
  refine ⟨?_, rfl⟩
  rw [← H.out]
  rfl
end Go.Proofs.Ytbajgpbekanodaa
