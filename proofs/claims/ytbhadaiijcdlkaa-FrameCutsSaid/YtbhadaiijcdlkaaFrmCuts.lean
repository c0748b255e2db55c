/- The walk over the law FrameCuts. Conditions: what comes in is as the rows have it. -/
import Derived.Test.YtbhadaiijcdlkaaFrmLawsB
namespace Go.Proofs.Ytbhadaiijcdlkaa
open Go.RowKit

theorem strsAt_take {w : World} {ao : Option Addr} {ss : List ByteArray} (h : StrsAt w ao ss) (k : Nat) : StrsAt w ao (ss.take k) :=
  strsAt_append (b := ss.drop k) (by rw [List.take_append_drop]; exact h)
theorem strsFit_take {ss : List ByteArray} {cap : Nat} (h : StrsFit ss cap) (k : Nat) : StrsFit (ss.take k) cap :=
  strsFit_append (b := ss.drop k) (by rw [List.take_append_drop]; exact h)
theorem strs_one (s : ByteArray) (t : TypeId) (w : World) : StrsAt (w.alloc (.cells #[.string s] t)) (some ⟨w.heap.size, 0, none⟩) [s] := strs_new [s] t w _ rfl _ rfl

/-- How much the first bodies take. -/
def Pk (ss : List ByteArray) (k : Nat) : Nat := (Frm.frS (ss.take k)).size

set_option maxRecDepth 100000 in
set_option maxHeartbeats 4000000 in
/-- FrameCuts where bodies are framed, and the cut lies within. -/
theorem frameCuts_ok (ao : Option Addr) (cap : Nat) (ss : List ByteArray) (c : Nat) (x : ByteArray) (w : World) (hf : StrsFit ss cap) (hc : StrsAt w ao ss) (hsm : Frm.smallB ss = true) (hfit : ∀ t ∈ ss, t.size ≤ 20000) (hx : x = Frm.frS ss) (hcut : (c : Int) ≤ (x.size : Int)) :
    Calls Try.prog 7 #[.slice ao ss.length cap, .int .i64 (c : Int)] w fun e w' => e = .returned (.bool true) ∧ Below w.heap.size w w' := by
  have hle : x.size ≤ 200000 := by rw [hx]; exact Frm.frS_small (l := ss) (by unfold Frm.smallB at hsm; exact of_decide_eq_true hsm)
  have C0 := Lib.hid (small20_any ao cap ss w hf hc)
  rw [hsm] at C0
  have C1 := Lib.hid (make_any ao cap ss w hf hc (by rw [← hx]; omega))
  rw [mk_fit ss hfit, ← hx] at C1
  unfold pairB at C1
  simp only at C1
  have C2 : Hid (∀ (s : ByteArray) w', s.size ≤ 20000 → Calls Try.prog 11 #[.slice (some ⟨w'.heap.size, 0, none⟩) 1 1] (w'.alloc (.cells #[.string s] 9)) fun e w'' => e = .returned (.tuple #[.string (Frm.frB s), .int .i64 (0 : Nat)]) ∧ Below w'.heap.size w' w'') := fun s w' hs => by
    have h1 := make_any (some ⟨w'.heap.size, 0, none⟩) 1 [s] _ ⟨by simp, by simp [maxLen], by intro t ht; simp at ht; subst ht; unfold maxLen; omega⟩ (strs_one s 9 w') (by rw [Frm.frS_one, Frm.frB_size]; have := Frm.textB_le s; omega)
    rw [mk_fit [s] (by simpa using hs), Frm.frS_one] at h1
    refine h1.mono ?_
    rintro e w'' ⟨rfl, hb⟩
    exact ⟨rfl, ((Below.refl _ _).alloc (Nat.le_refl _) _).trans (hb.mono (by simp))⟩
  have C3 := Lib.hid (fun w => scan_any (x.extract 0 c) w (by rw [ByteArray.size_extract]; omega))
  have HCUT : Hid (∀ k, k ≤ ss.length → Pk ss k ≤ c → (k < ss.length → c < Pk ss k + (Frm.frB (ss.getD k ByteArray.empty)).size) → Frm.scB (x.extract 0 c) = (ss.take k, Pk ss k)) := fun k h1 h2 h3 => by
    rw [hx]; exact Frm.scB_cut ss c k hfit h1 h2 h3 (by rw [← hx]; omega)
  have HPK : Hid (∀ k, k < ss.length → Pk ss (k + 1) = Pk ss k + (Frm.frB (ss.getD k ByteArray.empty)).size ∧ Pk ss (k + 1) ≤ 200000 ∧ (ss.getD k ByteArray.empty).size ≤ 20000) := fun k hk => by
    refine ⟨?_, ?_, ?_⟩
    · unfold Pk; rw [frS_take ss k hk, ByteArray.size_append]
    · have := frS_take_le ss (k + 1); unfold Pk; rw [← hx] at this; omega
    · have : ss.getD k ByteArray.empty = ss[k] := by simp [List.getD, hk]
      rw [this]; exact hfit _ (List.getElem_mem hk)
  have HC := Lib.hid hc
  have HF := Lib.hid hf
  have HSM := Lib.hid (fun ao bo n m ca cb l w' h0 h0' h1 h2 h3 => same_at ao bo n m ca cb l w' h0 h0' h1 h2 h3)
  have hcc : (c : Int) ≤ 200000 := by omega
  have hd0 : decide (x.size < c) = false := by simp; omega
  have hP0 : Pk ss 0 = 0 := by unfold Pk Frm.frS; simp
  have HP0 := Lib.hid hP0
  clear hf hc hsm hfit hx hle hP0
  obtain ⟨n, hn⟩ : ∃ n, n = ss.length := ⟨_, rfl⟩
  rw [← hn] at C0 C1 HCUT HPK ⊢
  have HN := Lib.hid hn
  have hnm : (n : Int) ≤ (cap : Int) ∧ (cap : Int) ≤ 9223372036854775807 := by have h1 := HF.out.1; have h2 := HF.out.2.1; have h3 := HN.out; unfold maxLen at h2; omega
  obtain ⟨hnc, hcapm⟩ := hnm
  clear hn
  go_enter Try.func7, Try.ntmps7
  go_wp2_with fail
  refine C0.out.mono ?_
  rintro e w' ⟨rfl, rfl⟩
  clear C0
  go_wp2_with fail
  refine C1.out.mono ?_
  rintro e w1 ⟨rfl, hb1⟩
  have k1 := Lib.hid hb1
  clear C1 hb1
  go_wp2_with fail
  go_loopw [7, 8, 9, 10] (fun i z _ _ wr => ∃ k : Nat, (k : Int) ≤ (n : Int) ∧ i = .int .i64 (k : Int) ∧ z = .int .i64 (Pk ss k : Nat) ∧ ((Pk ss k : Nat) : Int) ≤ (c : Int) ∧ Hid (Below w.heap.size w wr)) (fun i _ _ _ _ => n - (intOf i).toNat)
  case atStart => exact ⟨0, by omega, rfl, by rw [HP0.out]; rfl, by rw [HP0.out]; omega, k1⟩
  case round =>
    clear k1
    obtain ⟨k, hk, rfl, rfl, hpk, hbel⟩ := hrel
    by_cases hlt : (k : Int) < (n : Int)
    · have hkl : k < ss.length := by rw [← HN.out]; omega
      obtain ⟨b, off, hao, hbl, hcell0⟩ := HC.out k hkl
      have hcell := (hbel.out.cell (p := ⟨b, off + k, none⟩) hbl).trans hcell0
      obtain ⟨p1, p2, p3⟩ := HPK.out k (by omega)
      have HCU := HCUT.out k (by omega)
      generalize ss.getD k ByteArray.empty = s at *
      have HM := Lib.hid (C2.out s wr p3)
      generalize Frm.frB s = t at *
      have HP := Lib.hid p1
      have HCU2 := Lib.hid HCU
      have hpt : ((Pk ss k : Nat) : Int) + (t.size : Int) ≤ 200000 := by omega
      subst hao
      clear hcell0 hkl p1 p2 p3 HCU
      by_cases hgo : (c : Int) < ((Pk ss k : Nat) : Int) + (t.size : Int)
      · have HSC := Lib.hid (HCU2.out (by omega) (fun _ => by omega))
        have HKN : Hid (k ≤ n) := by show _ ≤ _; omega
        have hkc : (k : Int) ≤ (cap : Int) := by omega
        clear HCU2
        go_wp2_with fail
        refine HM.out.mono ?_
        rintro e w2 ⟨rfl, hb2⟩
        have k2 := Lib.hid (hbel.out.trans (hb2.mono hbel.out.size))
        clear hb2 hbel hcell
        go_wp2_with fail
        refine (C3.out _).mono ?_
        rw [HSC.out]
        rintro e w3 ⟨mo, mc, rfl, hA, hFm, hb3⟩
        have HLT : Hid ((ss.take k).length = k) := by show _ = _; rw [List.length_take, ← HN.out]; have := HKN.out; omega
        simp only
        rw [HLT.out]
        have k3 := Lib.hid (k2.out.trans (hb3.mono k2.out.size))
        have HA := Lib.hid hA
        have HFm := Lib.hid hFm
        have HC3 := Lib.hid (strsAt_take (HC.out.below k3.out) k)
        clear hA hFm hb3 k2
        go_wp2_with fail
        refine (HSM.out _ _ _ _ _ _ (ss.take k) _ HLT.out.symm HLT.out.symm HFm.out HA.out HC3.out).mono ?_
        rintro e w4 ⟨rfl, hb4⟩
        have k4 := Lib.hid (k3.out.trans (hb4.mono k3.out.size))
        clear hb4 k3
        go_wp2_with fail
        refine (awake20_any _).mono ?_
        rintro e w5 ⟨rfl, hb5⟩
        go_wp2_with fail
        go_ret
        exact ⟨rfl, k4.out.trans (hb5.mono k4.out.size)⟩
      · have hgo2 : ((Pk ss k : Nat) : Int) + (t.size : Int) ≤ (c : Int) := by omega
        go_wp2_with fail
        refine HM.out.mono ?_
        rintro e w2 ⟨rfl, hb2⟩
        have k2 := Lib.hid (hbel.out.trans (hb2.mono hbel.out.size))
        clear hb2 hbel hcell HCU2
        go_wp2_with fail
        go_roundw
        case rel => exact ⟨k + 1, by omega, by go_num, by rw [HP.out]; go_num, by rw [HP.out]; omega, k2⟩
        case measure => simp [intOf]; omega
    · obtain rfl : k = n := by omega
      have HSC := Lib.hid (HCUT.out k (by omega) (by omega) (fun h => by omega))
      have k2 := hbel
      go_wp2_with fail
      refine (C3.out _).mono ?_
      rw [HSC.out]
      rintro e w3 ⟨mo, mc, rfl, hA, hFm, hb3⟩
      have HLT : Hid ((ss.take k).length = k) := by show _ = _; rw [List.length_take, ← HN.out]; omega
      simp only
      rw [HLT.out]
      have k3 := Lib.hid (k2.out.trans (hb3.mono k2.out.size))
      have HA := Lib.hid hA
      have HFm := Lib.hid hFm
      have HC3 := Lib.hid (strsAt_take (HC.out.below k3.out) k)
      clear hA hFm hb3 k2
      go_wp2_with fail
      refine (HSM.out _ _ _ _ _ _ (ss.take k) _ HLT.out.symm HLT.out.symm HFm.out HA.out HC3.out).mono ?_
      rintro e w4 ⟨rfl, hb4⟩
      have k4 := Lib.hid (k3.out.trans (hb4.mono k3.out.size))
      clear hb4 k3
      go_wp2_with fail
      refine (awake20_any _).mono ?_
      rintro e w5 ⟨rfl, hb5⟩
      go_wp2_with fail
      go_ret
      exact ⟨rfl, k4.out.trans (hb5.mono k4.out.size)⟩

set_option maxRecDepth 100000 in
set_option maxHeartbeats 2000000 in
theorem frameCuts_walk (ao : Option Addr) (cap : Nat) (ss : List ByteArray) (c : Int) (w : World) (hf : StrsFit ss cap) (hc : StrsAt w ao ss) (_ : cap * 16 ≤ 140737488351232) (_ : -9223372036854775808 ≤ c ∧ c ≤ 9223372036854775807) :
    Calls Try.prog 7 #[.slice ao ss.length cap, .int .i64 c] w fun e w' => e = .returned (.bool true) ∧ Below w.heap.size w w' := by
  have C0 := Lib.hid (small20_any ao cap ss w hf hc)
  by_cases hs : Frm.smallB ss = true
  · have hle : (Frm.frS ss).size ≤ 140737488355328 := by
      have := Frm.frS_small (l := ss) (by unfold Frm.smallB at hs; exact of_decide_eq_true hs)
      omega
    rcases mk_cases ss with ⟨hmk, hfit⟩ | hmk
    · by_cases h0 : c < 0
      · have C1 := Lib.hid (make_any ao cap ss w hf hc hle)
        rw [hmk] at C1
        unfold pairB at C1
        simp only at C1
        rw [hs] at C0
        generalize Frm.frS ss = x at *
        generalize ss.length = len at *
        clear hf hc hs hle hmk
        go_enter Try.func7, Try.ntmps7
        go_wp2_with fail
        refine C0.out.mono ?_
        rintro e w' ⟨rfl, rfl⟩
        go_wp2_with fail
        refine C1.out.mono ?_
        rintro e w1 ⟨rfl, hb1⟩
        go_wp2_with fail
        refine (awake20_any _).mono ?_
        rintro e w3 ⟨rfl, hb3⟩
        go_wp2_with fail
        go_ret
        exact ⟨rfl, hb1.trans (hb3.mono hb1.size)⟩
      · obtain ⟨d, rfl⟩ := Int.eq_ofNat_of_zero_le (show 0 ≤ c by omega)
        by_cases h1 : (d : Int) ≤ ((Frm.frS ss).size : Int)
        · exact frameCuts_ok ao cap ss d _ w hf hc hs hfit rfl h1
        · have C1 := Lib.hid (make_any ao cap ss w hf hc hle)
          rw [hmk] at C1
          unfold pairB at C1
          simp only at C1
          rw [hs] at C0
          generalize Frm.frS ss = x at *
          generalize ss.length = len at *
          have hd1 : decide (x.size < d) = true := by simp; omega
          clear hf hc hs hle hmk h0
          go_enter Try.func7, Try.ntmps7
          go_wp2_with fail
          refine C0.out.mono ?_
          rintro e w' ⟨rfl, rfl⟩
          go_wp2_with fail
          refine C1.out.mono ?_
          rintro e w1 ⟨rfl, hb1⟩
          go_wp2_with fail
          refine (awake20_any _).mono ?_
          rintro e w3 ⟨rfl, hb3⟩
          go_wp2_with fail
          go_ret
          exact ⟨rfl, hb1.trans (hb3.mono hb1.size)⟩
    · have C1 := Lib.hid (make_any ao cap ss w hf hc hle)
      rw [hmk] at C1
      unfold pairB at C1
      simp only at C1
      rw [hs] at C0
      generalize ss.length = len at *
      clear hf hc hs hle hmk
      go_enter Try.func7, Try.ntmps7
      go_wp2_with fail
      refine C0.out.mono ?_
      rintro e w' ⟨rfl, rfl⟩
      go_wp2_with fail
      refine C1.out.mono ?_
      rintro e w1 ⟨rfl, hb1⟩
      go_wp2_with fail
      refine (awake20_any _).mono ?_
      rintro e w3 ⟨rfl, hb3⟩
      go_wp2_with fail
      go_ret
      exact ⟨rfl, hb1.trans (hb3.mono hb1.size)⟩
  · have hs2 : Frm.smallB ss = false := by simpa using hs
    rw [hs2] at C0
    generalize ss.length = len at *
    clear hf hc hs hs2
    go_enter Try.func7, Try.ntmps7
    go_wp2_with fail
    refine C0.out.mono ?_
    rintro e w' ⟨rfl, rfl⟩
    go_wp2_with fail
    refine (awake20_any _).mono ?_
    rintro e w3 ⟨rfl, hb3⟩
    go_wp2_with fail
    go_ret
    exact ⟨rfl, hb3⟩
end Go.Proofs.Ytbhadaiijcdlkaa
