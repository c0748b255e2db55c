/- The walks over the laws FrameForms and FrameBack. Conditions: what comes in is as the rows have it. -/
import Derived.Test.YtbhadaiijcdlkaaFrmLaws
namespace Go.Proofs.Ytbhadaiijcdlkaa
open Go.RowKit

theorem mk_fit (ss : List ByteArray) (h : ∀ t ∈ ss, t.size ≤ 20000) : Frm.mkB ss = (Frm.frS ss, 0) := by
  unfold Frm.mkB
  rw [if_pos (List.all_eq_true.2 fun t ht => by simpa using h t ht)]
theorem mk_cases (ss : List ByteArray) : (Frm.mkB ss = (Frm.frS ss, 0) ∧ ∀ t ∈ ss, t.size ≤ 20000) ∨ Frm.mkB ss = (ByteArray.empty, 3) := by
  unfold Frm.mkB
  split
  · rename_i h
    exact .inl ⟨rfl, fun t ht => by simpa using List.all_eq_true.1 h t ht⟩
  · exact .inr rfl
theorem strsAt_append {w : World} {ao : Option Addr} {a b : List ByteArray} (h : StrsAt w ao (a ++ b)) : StrsAt w ao a := by
  intro i hi
  obtain ⟨bl, off, h1, h2, h3⟩ := h i (by simp; omega)
  refine ⟨bl, off, h1, h2, ?_⟩
  rw [h3]
  simp [List.getD, List.getElem?_append_left hi]
theorem strsFit_append {a b : List ByteArray} {cap : Nat} (h : StrsFit (a ++ b) cap) : StrsFit a cap :=
  ⟨by have := h.1; simp at this; omega, h.2.1, fun s hs => h.2.2 s (by simp [hs])⟩

set_option maxRecDepth 100000 in
set_option maxHeartbeats 2000000 in
theorem frameForms_walk (s : ByteArray) (w : World) (hs : s.size ≤ 140737488351232) :
    Calls Try.prog 8 #[.string s] w fun e w' => e = .returned (.bool true) ∧ Below w.heap.size w w' := by
  have hs2 : (s.size : Int) ≤ 9223372036854775807 := by omega
  by_cases hb : (60000 : Int) < (s.size : Int)
  · clear hs
    go_enter Try.func8, Try.ntmps8
    go_wp2_with fail
    refine (awake20_any _).mono ?_
    rintro e w3 ⟨rfl, hb3⟩
    go_wp2_with fail
    go_ret
    exact ⟨rfl, hb3⟩
  · have C1 := Lib.hid (fun w => scan_any s w (by omega))
    obtain ⟨f1, f2, f3, f4⟩ := Frm.scB_form s
    have hmk := mk_fit _ f2
    have hsz : (Frm.frS (Frm.scB s).1).size ≤ 140737488355328 := by rw [f3, ByteArray.size_extract]; omega
    have C2 : Hid (∀ ao cap w', StrsFit (Frm.scB s).1 cap → StrsAt w' ao (Frm.scB s).1 → Calls Try.prog 11 #[.slice ao (Frm.scB s).1.length cap] w' fun e w'' => e = .returned (.tuple #[.string (s.extract 0 (Frm.scB s).2), .int .i64 (0 : Nat)]) ∧ Below w'.heap.size w' w'') := fun ao cap w' h1 h2 => by
      have := make_any ao cap _ w' h1 h2 hsz
      rw [hmk, f3] at this
      exact this
    clear f2 f3 f4 hmk hsz hs
    generalize Frm.scB s = r at *
    obtain ⟨l, n⟩ := r
    simp only at f1 C2
    have hn : (n : Int) ≤ (s.size : Int) := by omega
    have hd : decide (s.size < n) = false := by simp; omega
    clear f1
    go_enter Try.func8, Try.ntmps8
    go_wp2_with fail
    refine (C1.out _).mono ?_
    rintro e w1 ⟨ao, ca, rfl, hA, hF, hb1⟩
    have HA := Lib.hid hA
    have HF := Lib.hid hF
    clear hA hF C1
    simp only at HA HF ⊢
    have C3 := Lib.hid (C2.out ao ca _ HF.out HA.out)
    clear C2 HA HF
    generalize l.length = len at *
    go_wp2_with fail
    refine C3.out.mono ?_
    rintro e w2 ⟨rfl, hb2⟩
    have k2 := hb1.trans (hb2.mono hb1.size)
    go_wp2_with fail
    refine (awake20_any _).mono ?_
    rintro e w4 ⟨rfl, hb4⟩
    go_wp2_with fail
    go_ret
    exact ⟨rfl, k2.trans (hb4.mono k2.size)⟩

set_option maxRecDepth 100000 in
set_option maxHeartbeats 4000000 in
/-- FrameBack where bodies are framed. -/
theorem frameBack_ok (ao : Option Addr) (cap : Nat) (ss : List ByteArray) (more x : ByteArray) (w : World) (hf : StrsFit ss cap) (hc : StrsAt w ao ss) (hsm : Frm.smallB ss = true) (hmore : ¬ (20000 : Int) < (more.size : Int)) (hfit : ∀ t ∈ ss, t.size ≤ 20000) (hx : x = Frm.frS ss) :
    Calls Try.prog 6 #[.slice ao ss.length cap, .string more] w fun e w' => e = .returned (.bool true) ∧ Below w.heap.size w w' := by
  have hle : x.size ≤ 200000 := by rw [hx]; exact Frm.frS_small (l := ss) (by unfold Frm.smallB at hsm; exact of_decide_eq_true hsm)
  have C0 := Lib.hid (small20_any ao cap ss w hf hc)
  rw [hsm] at C0
  have C1 := Lib.hid (make_any ao cap ss w hf hc (by rw [← hx]; omega))
  rw [mk_fit ss hfit, ← hx] at C1
  unfold pairB at C1
  simp only at C1
  have C2 := Lib.hid (fun w => scan_any x w (by omega))
  have e2 := Frm.scB_frS ss hfit
  rw [← hx] at e2
  rw [e2] at C2
  have C3 := Lib.hid (fun w => scan_any (x ++ more) w (by rw [ByteArray.size_append]; omega))
  have C4 := Lib.hid (fun w => frameTake_any more 0 w (by omega))
  obtain ⟨ts, hts⟩ := Frm.scB_more ss more hfit
  rw [← hx] at hts
  have hstop : (Frm.ftB more 0).2.2 ≠ 0 → Frm.scB (x ++ more) = (ss, x.size) := by rw [hx]; exact Frm.scB_stop ss more hfit
  have HSTOP : Hid ((Frm.ftB more 0).2.2 = 0 ∨ (ts = [] ∧ (Frm.scB (x ++ more)).2 = x.size)) := by
    by_cases h : (Frm.ftB more 0).2.2 = 0
    · exact .inl h
    · have h1 := hstop h
      rw [h1] at hts
      simp only at hts
      refine .inr ⟨?_, by rw [h1]⟩
      simpa using hts.symm
  have HC := Lib.hid hc
  have HF := Lib.hid hf
  generalize Frm.scB (x ++ more) = r at *
  obtain ⟨k, to⟩ := r
  simp only at hts HSTOP
  subst hts
  generalize Frm.ftB more 0 = y at *
  obtain ⟨b, bt, f⟩ := y
  unfold tripT at C4
  simp only at C4 HSTOP
  have HSM := Lib.hid (fun ao bo ca cb w' h1 h2 h3 => same_at ao bo ss.length ss.length ca cb ss w' rfl rfl h1 h2 h3)
  have HL : Hid ((ss ++ ts).length = ss.length + ts.length) := by show _ = _; simp
  have hxs : (x.size : Int) ≤ 200000 := by omega
  have hms : (more.size : Int) ≤ 20000 := by omega
  clear hf hc hsm hfit hx hle e2 hstop
  obtain ⟨n, hn⟩ : ∃ n, n = ss.length := ⟨_, rfl⟩
  obtain ⟨K, hK⟩ : ∃ K, K = (ss ++ ts).length := ⟨_, rfl⟩
  have HK : Hid (K = n + ts.length) := by show K = n + _; rw [hK, hn]; exact HL.out
  have hnK : (n : Int) ≤ (K : Int) := by have := HK.out; omega
  have hd1 : decide (K < n) = false := by simp; omega
  clear HL
  unfold ScanOut at C2 C3
  simp only at C2 C3
  rw [← hn] at C0 C1 C2 HSM ⊢
  rw [← hK] at C3
  have HKE := Lib.hid hK
  have HNE := Lib.hid hn
  clear hK hn
  go_enter Try.func6, Try.ntmps6
  go_wp2_with fail
  refine C0.out.mono ?_
  rintro e w' ⟨rfl, rfl⟩
  clear C0
  go_wp2_with fail
  refine C1.out.mono ?_
  rintro e w1 ⟨rfl, hb1⟩
  have HC1 := Lib.hid (HC.out.below hb1)
  have k1 := Lib.hid hb1
  clear C1 hb1 HC
  go_wp2_with fail
  refine (C2.out _).mono ?_
  rintro e w2 ⟨mo, mc, rfl, hA2, hF2, hb2⟩
  have HC2 := Lib.hid (HC1.out.below hb2)
  have HA2 := Lib.hid hA2
  have HF2 := Lib.hid hF2
  have k2 := Lib.hid (k1.out.trans (hb2.mono k1.out.size))
  clear C2 hb2 HC1 hA2 hF2 k1
  go_wp2_with fail
  refine (C3.out _).mono ?_
  rintro e w3 ⟨ko, kc, rfl, hA3, hF3, hb3⟩
  have HC3 := Lib.hid (HC2.out.below hb3)
  have HA23 := Lib.hid (HA2.out.below hb3)
  have HA3 := Lib.hid (strsAt_append hA3)
  have HF3 := Lib.hid (strsFit_append hF3)
  have hkc : (n : Int) ≤ (kc : Int) := by have h1 := hF3.1; have h2 := HKE.out; omega
  have k3 := Lib.hid (k2.out.trans (hb3.mono k2.out.size))
  clear C3 hb3 HC2 hA3 hF3 k2 HA2
  go_wp2_with fail
  refine (HSM.out _ _ _ _ _ HF2.out HA23.out HC3.out).mono ?_
  rintro e w4 ⟨rfl, hb4⟩
  have HC4 := Lib.hid (HC3.out.below hb4)
  have HA4 := Lib.hid (HA3.out.below hb4)
  have k4 := Lib.hid (k3.out.trans (hb4.mono k3.out.size))
  clear hb4 HC3 HA3 k3 HA23
  go_wp2_with fail
  refine (HSM.out _ _ _ _ _ HF3.out HA4.out HC4.out).mono ?_
  rintro e w5 ⟨rfl, hb5⟩
  have k5 := Lib.hid (k4.out.trans (hb5.mono k4.out.size))
  clear hb5 k4 HA4 HC4
  go_wp2_with fail
  refine (C4.out _).mono ?_
  rintro e w6 ⟨rfl, hb6⟩
  have k6 := Lib.hid (k5.out.trans (hb6.mono k5.out.size))
  clear hb6 k5 C4
  rcases HSTOP.out with h | ⟨h, h'⟩
  · subst h
    go_wp2_with fail
    refine (awake20_any _).mono ?_
    rintro e w7 ⟨rfl, hb7⟩
    go_wp2_with fail
    go_ret
    exact ⟨rfl, k6.out.trans (hb7.mono k6.out.size)⟩
  · subst h h'
    obtain rfl : K = n := by have := HK.out; simp at this; omega
    by_cases hf : (f : Int) = 0
    · go_wp2_with fail
      refine (awake20_any _).mono ?_
      rintro e w7 ⟨rfl, hb7⟩
      go_wp2_with fail
      go_ret
      exact ⟨rfl, k6.out.trans (hb7.mono k6.out.size)⟩
    · have hf2 : ((f : Int) == 0) = false := by simpa using hf
      have hf3 : (f == 0) = false := by simpa using hf
      clear hf
      go_wp2_with fail
      refine (awake20_any _).mono ?_
      rintro e w7 ⟨rfl, hb7⟩
      go_wp2_with fail
      go_ret
      exact ⟨rfl, k6.out.trans (hb7.mono k6.out.size)⟩

set_option maxRecDepth 100000 in
set_option maxHeartbeats 2000000 in
theorem frameBack_walk (ao : Option Addr) (cap : Nat) (ss : List ByteArray) (more : ByteArray) (w : World) (hf : StrsFit ss cap) (hc : StrsAt w ao ss) (_ : cap * 16 ≤ 140737488351232) (_ : more.size ≤ 140737488351232) :
    Calls Try.prog 6 #[.slice ao ss.length cap, .string more] w fun e w' => e = .returned (.bool true) ∧ Below w.heap.size w w' := by
  have C0 := Lib.hid (small20_any ao cap ss w hf hc)
  have hms : (more.size : Int) ≤ 9223372036854775807 := by omega
  by_cases hs : Frm.smallB ss = true
  · by_cases hm : (20000 : Int) < (more.size : Int)
    · rw [hs] at C0
      generalize ss.length = len at *
      clear hf hc hs
      go_enter Try.func6, Try.ntmps6
      go_wp2_with fail
      refine C0.out.mono ?_
      rintro e w' ⟨rfl, rfl⟩
      go_wp2_with fail
      refine (awake20_any _).mono ?_
      rintro e w3 ⟨rfl, hb3⟩
      go_wp2_with fail
      go_ret
      exact ⟨rfl, hb3⟩
    · rcases mk_cases ss with ⟨hmk, hfit⟩ | hmk
      · exact frameBack_ok ao cap ss more _ w hf hc hs hm hfit rfl
      · have hle : (Frm.frS ss).size ≤ 140737488355328 := by
          have := Frm.frS_small (l := ss) (by unfold Frm.smallB at hs; exact of_decide_eq_true hs)
          omega
        have C1 := Lib.hid (make_any ao cap ss w hf hc hle)
        rw [hmk] at C1
        unfold pairB at C1
        simp only at C1
        rw [hs] at C0
        generalize ss.length = len at *
        clear hf hc hs hle hmk
        go_enter Try.func6, Try.ntmps6
        go_wp2_with fail
        refine C0.out.mono ?_
        rintro e w' ⟨rfl, rfl⟩
        go_wp2_with fail
        refine C1.out.mono ?_
        rintro e w1 ⟨rfl, hb1⟩
        go_wp2_with fail
        refine (awake20_any _).mono ?_
        rintro e w3 ⟨rfl, hb3⟩
        go_wp2_with fail
        go_ret
        exact ⟨rfl, hb1.trans (hb3.mono hb1.size)⟩
  · have hs2 : Frm.smallB ss = false := by simpa using hs
    rw [hs2] at C0
    generalize ss.length = len at *
    clear hf hc hs hs2
    go_enter Try.func6, Try.ntmps6
    go_wp2_with fail
    refine C0.out.mono ?_
    rintro e w' ⟨rfl, rfl⟩
    go_wp2_with fail
    refine (awake20_any _).mono ?_
    rintro e w3 ⟨rfl, hb3⟩
    go_wp2_with fail
    go_ret
    exact ⟨rfl, hb3⟩
end Go.Proofs.Ytbhadaiijcdlkaa
