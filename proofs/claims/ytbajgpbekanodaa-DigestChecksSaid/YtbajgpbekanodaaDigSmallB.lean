/- The walk over pandectlaw38's small, its answer told. -/
import Derived.Test.YtbajgpbekanodaaDigSmall
namespace Go.Proofs.Ytbajgpbekanodaa
open Go.RowKit

def smallB (l : List ByteArray) (M : Nat) : Bool := decide ((jnB l).size + 64 * l.length ≤ M)
theorem jn_mem (l : List ByteArray) (s : ByteArray) (h : s ∈ l) : s.size ≤ (jnB l).size := by
  obtain ⟨k, hk, rfl⟩ := List.getElem_of_mem h
  have h1 := jn_le l (k + 1)
  rw [jn_take l k hk, ByteArray.size_append] at h1
  have e : l.getD k ByteArray.empty = l[k] := by simp [List.getD, hk]
  rw [e] at h1
  omega
theorem smallB_leaf {l : List ByteArray} {M : Nat} (h : smallB l M = true) : (jnB l).size + 64 * l.length ≤ M ∧ ∀ s ∈ l, s.size ≤ M := by
  unfold smallB at h
  have h := of_decide_eq_true h
  exact ⟨h, fun s hs => by have := jn_mem l s hs; omega⟩
set_option maxRecDepth 100000 in
set_option maxHeartbeats 2000000 in
theorem small38_det (l : List ByteArray) (M : Nat) (hM : (M : Int) ≤ 10000) (ao : Option Addr) (cap : Nat) (w : World) (hf : StrsFit l cap) (hc : StrsAt w ao l) :
    Calls Try.prog 15 #[.slice ao l.length cap, .int .i64 (M : Int)] w fun e w' => e = .returned (.bool (smallB l M)) ∧ w = w' := by
  have hm : (l.length : Int) ≤ 9223372036854775807 := by have h1 := hf.1; have h2 := hf.2.1; unfold maxLen at h2; omega
  obtain ⟨n, hn⟩ : ∃ n, n = l.length := ⟨_, rfl⟩
  have HN := Lib.hid hn
  rw [← hn] at hm ⊢
  have HF := Lib.hid hf
  have HC := Lib.hid hc
  clear hf hc hn
  go_enter Try.func15, Try.ntmps15
  go_wp2_with fail
  go_loop [5, 6] (fun t i => ∃ k T : Nat, (k : Int) ≤ (n : Int) ∧ t = .int .i64 (T : Int) ∧ i = .int .i64 (k : Int) ∧ (T : Int) ≤ (M : Int) ∧ Hid (T = (jnB (l.take k)).size + 64 * k)) (fun _ i => n - (intOf i).toNat)
  case atStart => exact ⟨0, 0, by omega, rfl, rfl, by omega, rfl⟩
  case round =>
    obtain ⟨k, T, hk, rfl, rfl, hT, HT⟩ := hrel
    by_cases hlt : (k : Int) < (n : Int)
    · have hkl : k < l.length := by have := HN.out; omega
      obtain ⟨b, off, rfl, hb, hcell⟩ := HC.out k hkl
      have hsm := getD_fit HF.out k
      have HJ := Lib.hid (jn_take l k hkl)
      have HNO : Hid ((M : Int) < (T : Int) + (((l.getD k ByteArray.empty).size : Int) + 64) → smallB l M = false) := fun h => by
        unfold smallB
        rw [decide_eq_false]
        have h1 := jn_le l (k + 1)
        rw [jn_take l k hkl, ByteArray.size_append] at h1
        have h2 := HT.out
        omega
      generalize l.getD k ByteArray.empty = s at *
      unfold maxLen at hsm
      clear hkl
      go_wp2_with fail
      case roundEnd =>
        have h : (T : Int) + (min (s.size : Int) 100000 + 64) ≤ (M : Int) := by assumption
        go_round
        case rel =>
          refine ⟨k + 1, T + (s.size + 64), by omega, by go_num, by go_num, by omega, ?_⟩
          show _ = _
          rw [HJ.out, ByteArray.size_append]
          have := HT.out
          omega
        case measure => simp [intOf]; omega
      all_goals
        have h : (M : Int) < (T : Int) + (min (s.size : Int) 100000 + 64) := by assumption
        go_ret
        exact ⟨by rw [HNO.out (by omega)]; rfl, rfl⟩
    · obtain rfl : k = n := by omega
      have e1 : l.take k = l := by rw [HN.out]; exact List.take_length
      have HE : Hid (smallB l M = true) := by
        show _ = _
        have h1 := HT.out
        rw [e1] at h1
        unfold smallB
        exact decide_eq_true (by rw [← HN.out]; omega)
      clear e1
      go_wp2_with fail
      go_ret
      exact ⟨by rw [HE.out]; rfl, rfl⟩
end Go.Proofs.Ytbajgpbekanodaa
