/- The walk over pandectlaw38's small. -/
import Derived.Test.YtbajgpbekanodaaDigAwake
namespace Go.Proofs.Ytbajgpbekanodaa
open Go.RowKit

/-- Texts together no more than some bytes. -/
def SmallT (l : List ByteArray) (M : Nat) : Prop := (jnB l).size + 64 * l.length ≤ M ∧ ∀ s ∈ l, s.size ≤ M
def SmallOut (l : List ByteArray) (M : Nat) (e : Ending) : Prop := ∃ b, e = .returned (.bool b) ∧ (b = true → SmallT l M)
set_option maxRecDepth 100000 in
set_option maxHeartbeats 2000000 in
theorem small38_any (l : List ByteArray) (M : Nat) (hM : (M : Int) ≤ 10000) (ao : Option Addr) (cap : Nat) (w : World) (hf : StrsFit l cap) (hc : StrsAt w ao l) :
    Calls Try.prog 15 #[.slice ao l.length cap, .int .i64 (M : Int)] w fun e w' => SmallOut l M e ∧ w = w' := by
  have hm : (l.length : Int) ≤ 9223372036854775807 := by have h1 := hf.1; have h2 := hf.2.1; unfold maxLen at h2; omega
  obtain ⟨n, hn⟩ : ∃ n, n = l.length := ⟨_, rfl⟩
  have HN := Lib.hid hn
  rw [← hn] at hm ⊢
  have HF := Lib.hid hf
  have HC := Lib.hid hc
  clear hf hc hn
  go_enter Try.func15, Try.ntmps15
  go_wp2_with fail
  go_loop [5, 6] (fun t i => ∃ k T : Nat, (k : Int) ≤ (n : Int) ∧ t = .int .i64 (T : Int) ∧ i = .int .i64 (k : Int) ∧ (T : Int) ≤ (M : Int) ∧ Hid (T = (jnB (l.take k)).size + 64 * k) ∧ Hid (∀ s ∈ l.take k, s.size ≤ M)) (fun _ i => n - (intOf i).toNat)
  case atStart => exact ⟨0, 0, by omega, rfl, rfl, by omega, rfl, fun s hs => by simp at hs⟩
  case round =>
    obtain ⟨k, T, hk, rfl, rfl, hT, HT, HA⟩ := hrel
    by_cases hlt : (k : Int) < (n : Int)
    · have hkl : k < l.length := by have := HN.out; omega
      obtain ⟨b, off, rfl, hb, hcell⟩ := HC.out k hkl
      have hsm := getD_fit HF.out k
      have HJ := Lib.hid (jn_take l k hkl)
      have HTK : Hid (∀ s ∈ l.take (k + 1), s = l.getD k ByteArray.empty ∨ s ∈ l.take k) := fun s hs => by
        rw [take_snocD l k hkl ByteArray.empty] at hs
        rcases List.mem_append.1 hs with h | h
        · exact .inr h
        · exact .inl (by simpa using h)
      generalize l.getD k ByteArray.empty = s at *
      unfold maxLen at hsm
      clear hkl
      go_wp2_with fail
      case roundEnd =>
        have h : (T : Int) + (min (s.size : Int) 100000 + 64) ≤ (M : Int) := by assumption
        go_round
        case rel =>
          refine ⟨k + 1, T + (s.size + 64), by omega, by go_num, by go_num, by omega, ?_, ?_⟩
          · show _ = _
            rw [HJ.out, ByteArray.size_append]
            have := HT.out
            omega
          · intro u hu
            rcases HTK.out u hu with rfl | hu
            · omega
            · exact HA.out u hu
        case measure => simp [intOf]; omega
      all_goals
        go_ret
        exact ⟨⟨_, rfl, fun h => by cases h⟩, rfl⟩
    · obtain rfl : k = n := by omega
      have e1 : l.take k = l := by rw [HN.out]; exact List.take_length
      have HE : Hid (SmallT l M) := by
        have h1 := HT.out
        have h2 := HA.out
        rw [e1] at h1 h2
        exact ⟨by rw [← HN.out]; omega, h2⟩
      clear e1
      go_wp2_with fail
      go_ret
      exact ⟨⟨_, rfl, fun _ => HE.out⟩, rfl⟩
end Go.Proofs.Ytbajgpbekanodaa
