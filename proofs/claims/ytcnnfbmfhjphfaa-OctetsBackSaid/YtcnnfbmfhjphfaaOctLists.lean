/- The walk over the law OctetsLists. Condition: the text to take from is at most 2^42 bytes. -/
import Derived.Test.YtcnnfbmfhjphfaaOctListB
namespace Go.Proofs.Ytcnnfbmfhjphfaa
open Go.RowKit

/-- How much texts weigh in the laws over lists. -/
def wtO (ss : List ByteArray) : Nat := (ss.map fun s => min s.size 100000 + 9).sum
theorem wtO_take (ss : List ByteArray) (k : Nat) (h : k < ss.length) : wtO (ss.take (k + 1)) = wtO (ss.take k) + (min (ss.getD k ByteArray.empty).size 100000 + 9) := by
  unfold wtO
  rw [List.take_succ_eq_append_getElem h, List.map_append, List.sum_append]
  simp [List.getD, h]
theorem wtO_le (ss : List ByteArray) (k : Nat) : wtO (ss.take k) ≤ wtO ss := by
  unfold wtO
  conv => rhs; rw [← List.take_append_drop k ss, List.map_append, List.sum_append]
  omega
/-- What is laid of light texts is short. -/
theorem listP_light (ss : List ByteArray) (h : wtO ss ≤ 100000) (k : Nat) (hk : k ≤ ss.length) : (listP ss k).size ≤ 9 + wtO (ss.take k) := by
  induction k with
  | zero => simp only [listP, List.take_zero, List.foldl_nil]; have := Oct.numB_le ss.length; omega
  | succ k ih =>
    have ih := ih (by omega)
    rw [listP_succ ss k (by omega), wtO_take ss k (by omega), ByteArray.size_append]
    have h1 := wtO_le ss (k + 1)
    rw [wtO_take ss k (by omega)] at h1
    have h2 : (Oct.textB (ss.getD k ByteArray.empty)).size ≤ 9 + (ss.getD k ByteArray.empty).size := by
      unfold Oct.textB; rw [ByteArray.size_append]; have := Oct.numB_le (ss.getD k ByteArray.empty).size; omega
    omega
theorem listB_light (ss : List ByteArray) (h : wtO ss ≤ 100000) : (Oct.listB ss).size ≤ 100009 := by
  have h1 := listP_light ss h ss.length (Nat.le_refl _)
  rw [listP_all, List.take_length] at h1
  omega

set_option maxRecDepth 100000 in
set_option maxHeartbeats 1000000 in
theorem octetsLists_any (ao : Option Addr) (cap : Nat) (ss : List ByteArray) (s : ByteArray) (p : Int) (w : World) (hf : StrsFit ss cap) (hc : StrsAt w ao ss) (hs : s.size ≤ 4398046511104) :
    Calls Try.prog 12 #[.slice ao ss.length cap, .string s, .int .i64 p] w fun e w' => e = .returned (.bool true) ∧ Below w.heap.size w w' := by
  have C1 := Lib.hid (fun w => takeList_any s p w hs)
  have C2 := Lib.hid (fun w => refTakeList_any s p w hs)
  generalize Oct.tlB s p = R at *
  obtain ⟨la, q, e⟩ := R
  have hm : (ss.length : Int) ≤ 9223372036854775807 := by have h1 := hf.1; have h2 := hf.2.1; unfold maxLen at h2; omega
  obtain ⟨n, hn⟩ : ∃ n, n = ss.length := ⟨_, rfl⟩
  have HN := Lib.hid hn
  have HC := Lib.hid hc
  have HF := Lib.hid hf
  rw [← hn] at hm ⊢
  clear hn hc hf hs
  go_enter Try.func12, Try.ntmps12
  go_wp2_with fail
  go_loop [7, 8] (fun r i => ∃ k : Nat, (k : Int) ≤ (n : Int) ∧ i = .int .i64 (k : Int) ∧ r = .int .i64 ((wtO (ss.take k) : Nat) : Int) ∧ ((wtO (ss.take k) : Nat) : Int) ≤ 100000) (fun _ i => n - (intOf i).toNat)
  case atStart => exact ⟨0, by omega, rfl, rfl, by simp [wtO]⟩
  case round =>
    obtain ⟨k, hk, rfl, rfl, hwt⟩ := hrel
    by_cases hlt : (k : Int) < (n : Int)
    · have hkl : k < ss.length := by rw [← HN.out]; omega
      obtain ⟨b, off, rfl, hbl, hcell⟩ := HC.out k hkl
      have H := Lib.hid (wtO_take ss k hkl)
      have hsz := getD_fit HF.out k
      have HS : Hid (ss.getD k ByteArray.empty = ss.getD k ByteArray.empty) := rfl
      generalize ss.getD k ByteArray.empty = t at *
      unfold maxLen at hsz
      have hsz2 : (t.size : Int) ≤ 9223372036854775807 := by omega
      clear hsz hkl HS
      generalize wtO (ss.take k) = m at *
      go_wp2_with (go_at_call 23; refine (awake01_any _).mono ?_; rintro e w3 ⟨rfl, hb3⟩)
      case roundEnd =>
        have h : (m : Int) + (min (t.size : Int) 100000 + 9) ≤ 100000 := by assumption
        go_round
        case rel => exact ⟨k + 1, by omega, by go_num, by rw [H.out]; refine congrArg _ ?_; omega, by rw [H.out]; omega⟩
        case measure => simp [intOf]; omega
      all_goals
        go_ret
        exact ⟨rfl, hb3⟩
    · obtain rfl : k = n := by omega
      have e1 : ss.take k = ss := List.take_of_length_le (by rw [HN.out]; omega)
      rw [e1] at hwt
      have HL := Lib.hid (listB_light ss (by omega))
      have C3 : Hid (∀ w ao, StrsAt w ao ss → Calls Try.prog 32 #[.slice ao k cap] w fun e w' => e = .returned (.string (Oct.listB ss)) ∧ Below w.heap.size w w') := by
        intro w ao hc; rw [HN.out]; exact list_any ao cap ss w HF.out hc (by have := HL.out; omega)
      have C4 : Hid (∀ w ao, StrsAt w ao ss → Calls Try.prog 33 #[.slice ao k cap] w fun e w' => e = .returned (.string (Oct.listB ss)) ∧ Below w.heap.size w w') := by
        intro w ao hc; rw [HN.out]; exact refList_any ao cap ss w HF.out hc (by have := HL.out; omega)
      generalize Oct.listB ss = lb at *
      clear e1 hwt
      go_wp2_with fail
      refine (C1.out _).mono ?_
      rintro e w1 ⟨ao1, cap1, rfl, hA1, hF1, hb1⟩
      go_wp2_with fail
      refine (C2.out _).mono ?_
      rintro e w2 ⟨ao2, cap2, rfl, hA2, hF2, hb2⟩
      have k2 := hb1.trans (hb2.mono hb1.size)
      have HA1 := Lib.hid (hA1.below hb2)
      go_wp2_with fail
      refine (C3.out _ _ (HC.out.below k2)).mono ?_
      rintro e w3 ⟨rfl, hb3⟩
      have k3 := k2.trans (hb3.mono k2.size)
      go_wp2_with fail
      refine (C4.out _ _ (HC.out.below k3)).mono ?_
      rintro e w4 ⟨rfl, hb4⟩
      have k4 := k3.trans (hb4.mono k3.size)
      go_wp2_with fail
      refine (same_yes _ _ _ _ la _ hF1 ((HA1.out.below hb3).below hb4) ((hA2.below hb3).below hb4)).mono ?_
      rintro e w5 ⟨rfl, hb5⟩
      have k5 := k4.trans (hb5.mono k4.size)
      go_wp2_with fail
      refine (awake01_any _).mono ?_
      rintro e w6 ⟨rfl, hb6⟩
      go_wp2_with fail
      go_ret
      exact ⟨rfl, k5.trans (hb6.mono k5.size)⟩
theorem octetsLists_walk (ao : Option Addr) (cap : Nat) (ss : List ByteArray) (s : ByteArray) (p : Int) (w : World) (hf : StrsFit ss cap) (hc : StrsAt w ao ss) (_ : cap * 16 ≤ 140737488351232) (hs : s.size ≤ 1048576) (_ : -9223372036854775808 ≤ p ∧ p ≤ 9223372036854775807) :
    Calls Try.prog 12 #[.slice ao ss.length cap, .string s, .int .i64 p] w fun e w' => e = .returned (.bool true) ∧ Below w.heap.size w w' :=
  octetsLists_any ao cap ss s p w hf hc (by omega)
end Go.Proofs.Ytcnnfbmfhjphfaa
