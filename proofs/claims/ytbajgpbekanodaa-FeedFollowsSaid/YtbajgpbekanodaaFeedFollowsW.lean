/- The walk over pandectlaw39's FeedFollows. -/
import Derived.Test.YtbajgpbekanodaaFeedArgs
namespace Go.Proofs.Ytbajgpbekanodaa
open Go.RowKit

set_option maxRecDepth 100000 in
set_option maxHeartbeats 8000000 in
theorem follows_gen {H : ByteArray → ByteArray} (hS : SumLaw H) (l : List ByteArray) (ao : Option Addr) (cap : Nat) (zs : List Int) (zo : Option Addr) (zcap : Nat) (again : Int) (w : World) (hf : StrsFit l cap) (hc : StrsAt w ao l) (hz : IntsAt w zo zs) (hzl : (zs.length : Int) ≤ 9223372036854775807)
    (ha : -9223372036854775808 ≤ again ∧ again ≤ 9223372036854775807) :
    Calls Try.prog 12 #[.slice ao l.length cap, .slice zo zs.length zcap, .int .i64 again] w fun e w' => e = .returned (.bool true) ∧ Below w.heap.size w w' := by
  have HC := Lib.hid hc
  have HF := Lib.hid hf
  have HZ := Lib.hid hz
  obtain ⟨n, hn⟩ : ∃ n, n = l.length := ⟨_, rfl⟩
  have HN := Lib.hid hn
  obtain ⟨m, hm⟩ : ∃ m, m = zs.length := ⟨_, rfl⟩
  have HM := Lib.hid hm
  rw [← hn, ← hm]
  have hcap : (n : Int) ≤ (cap : Int) := by have := hf.1; omega
  have hcapm : (cap : Int) ≤ 9223372036854775807 := by have := hf.2.1; unfold maxLen at this; omega
  rw [← hm] at hzl
  obtain ⟨g, hg⟩ : ∃ g : Nat, max (min again 5) 0 = (g : Int) := ⟨(max (min again 5) 0).toNat, by omega⟩
  have hg5 : (g : Int) ≤ 5 := by omega
  have C0 := made_any hS [] none 0 w ⟨by simp, by simp [maxLen], by simp⟩ (fun i hi => by simp at hi)
  unfold MadeOut at C0
  have hmb : madeB [] = true := rfl
  simp only [hmb, if_true] at C0
  have HC0 := Lib.hid C0
  clear hc hf hz hn hm C0 hmb
  go_enter Try.func12, Try.ntmps12
  go_wp2_with fail
  refine HC0.out.mono ?_
  rintro e w1 ⟨p, v, rfl, hf1, hb1⟩
  have HF1 := Lib.hid hf1
  have HB1 := Lib.hid hb1
  clear hf1 hb1 HC0
  go_wp2_with fail
  refine (new_any _).mono ?_
  rintro e w2 ⟨rfl, hf2, hb2⟩
  have HT2 := Lib.hid (Two.make HF1.out HB1.out.size hb2 hf2)
  have HB2 : Hid (Below w.heap.size w w2) := HB1.out.trans (hb2.mono HB1.out.size)
  clear hf2 hb2 HF1 HB1
  generalize w1.heap.size = q at *
  by_cases hm40 : (40 : Int) < (m : Int)
  · go_wp2_with fail
    refine (awake39_any _).mono ?_
    rintro e w3 ⟨rfl, hb3⟩
    have HB3 : Hid (Below w.heap.size w w3) := HB2.out.trans (hb3.mono HB2.out.size)
    clear hb3 HB2
    go_wp2_with fail
    go_ret
    exact ⟨rfl, HB3.out⟩
  · go_wp2_with fail
    go_loopw [10, 11, 12, 13, 14] (fun at_ i _ _ _ wr => ∃ k c : Nat, (k : Int) ≤ (m : Int) ∧ (c : Int) ≤ (n : Int) ∧ (c : Int) ≤ 4000 ∧ at_ = .int .i64 (c : Int) ∧ i = .int .i64 (k : Int) ∧ Hid (Two w.heap.size p q (runs H (l.take c)) (runs H (l.take c)) wr) ∧ Hid ((l.take c).any isBig = false) ∧ Hid (Below w.heap.size w wr)) (fun _ i _ _ _ _ => m - (intOf i).toNat)
    case atStart => exact ⟨0, 0, by omega, by omega, by omega, rfl, rfl, HT2, rfl, HB2⟩
    case round =>
      clear HT2 HB2
      obtain ⟨k, c, hk, hcn, hc4, rfl, rfl, HT, HBG, HB⟩ := hrel
      have hk0 : (0 : Int) ≤ (k : Int) := Int.natCast_nonneg _
      have hc0 : (0 : Int) ≤ (c : Int) := Int.natCast_nonneg _
      by_cases hlt : (k : Int) < (m : Int)
      · obtain ⟨⟨b, off, rfl, hb, hcell⟩, hz1, hz2⟩ := HZ.out k (by rw [← HM.out]; omega)
        have hcell := (HB.out.cell (World.block_lt_of_cell? _ _ hcell)).trans hcell
        generalize zs.getD k 0 = z at *
        obtain ⟨g2, hg2⟩ : ∃ g2 : Nat, max (min z 20) 0 = (g2 : Int) := ⟨(max (min z 20) 0).toNat, by omega⟩
        have hg20 : (g2 : Int) ≤ 20 := by omega
        clear hb
        have hp : ∃ n1 : Nat, (c : Int) ≤ (n1 : Int) ∧ (n1 : Int) ≤ (n : Int) ∧ (n1 : Int) ≤ (c : Int) + 20 ∧ (((n : Int) < (c : Int) + (g2 : Int) ∧ n1 = n) ∨ ((c : Int) + (g2 : Int) ≤ (n : Int) ∧ (c : Int) + (g2 : Int) = (n1 : Int))) := by
          by_cases h : (n : Int) < (c : Int) + (g2 : Int)
          · exact ⟨n, by omega, by omega, by omega, Or.inl ⟨h, rfl⟩⟩
          · exact ⟨c + g2, by omega, by omega, by omega, Or.inr ⟨by omega, by omega⟩⟩
        obtain ⟨n1, hcn1, hn1n, hn20, hd⟩ := hp
        have hc1l : n1 ≤ l.length := by have := HN.out; omega
        have hpl := part_len l c n1 hc1l
        have CM : Hid (∀ (bo : Option Addr) (cb : Nat) (w' : World), (∀ b off, ao = some ⟨b, off, none⟩ → c < n1 → bo = some ⟨b, off + c, none⟩) → n1 - c ≤ cb → (cb : Int) ≤ 9223372036854775807 → Below w.heap.size w w' → Calls Try.prog 32 #[.slice bo (n1 - c) cb] w' (MadeOut H (part l c n1) w')) := fun bo cb w' h1 h2 h3 h4 => by
          have h := made_any hS (part l c n1) bo cb w' ⟨by rw [hpl]; exact h2, by unfold maxLen; omega, (part_fit HF.out c n1 hc1l).2.2⟩ (part_at (HC.out.kept h4 (Nat.le_refl _)) c n1 hc1l bo h1)
          rw [hpl] at h
          exact h
        have CA : Hid (∀ (bo : Option Addr) (cb : Nat) (w' : World), (∀ b off, ao = some ⟨b, off, none⟩ → c < n1 → bo = some ⟨b, off + c, none⟩) → Below w.heap.size w w' → Two w.heap.size p q (runs H (l.take c)) (runs H (l.take c)) w' → (part l c n1).any isBig = false →
            Calls Try.prog 43 #[.pointer (some ⟨p, 0, none⟩), .slice bo (n1 - c) cb] w' fun e w2 => e = .returned (.int .i64 0) ∧ Two w.heap.size p q (runs H (l.take n1)) (runs H (l.take c)) w2 ∧ Below w.heap.size w' w2) := fun bo cb w' h1 h2 h3 h4 => by
          have h := two_add1 hS h3 (part l c n1) bo cb (by rw [runs_len, hpl, List.length_take]; omega) (runs_head H hS.1 _) (part_at (HC.out.kept h2 (Nat.le_refl _)) c n1 hc1l bo h1) (fun b off hb h0 => by
            rw [hpl] at h0
            obtain ⟨b', off', hb', hlt', _⟩ := HC.out c (by omega)
            have h5 := h1 b' off' hb' (by omega)
            rw [hb] at h5
            cases h5
            exact hlt') h4
          rw [hpl, ← runs_part H l c n1 (by omega)] at h
          exact h
        have HLN : Hid ((l.take n1).length = n1) := by show _ = _; rw [List.length_take]; omega
        have HTK : Hid ((l.take n1).take c = l.take c) := by show _ = _; rw [List.take_take, Nat.min_eq_left (by omega)]
        have hn1c : n1 ≤ 4020 := by omega
        obtain ⟨k', hk'⟩ : ∃ k' : Nat, (max ((c : Int) - (g : Int)) 0).toNat = k' := ⟨_, rfl⟩
        have hk'c : k' ≤ c := by omega
        have CSI : Hid (∀ w', Two w.heap.size p q (runs H (l.take n1)) (runs H (l.take c)) w' → Calls Try.prog 47 #[.pointer (some ⟨p, 0, none⟩), .int .i64 ((c : Int) - (g : Int)), .int .i64 100000] w' (EntOut w' ((runs H (l.take n1)).all.drop k'))) := fun w' h => by
          have h2 := two_since1 h ((c : Int) - (g : Int)) 100000 (by rw [runs_len, HLN.out]; omega)
          rw [since_own H (l.take n1) _ _ (by rw [HLN.out]; omega) (by omega), hk'] at h2
          exact h2
        have CTK : Hid (∀ (eo : Option Addr) (ec : Nat) (w' : World), (l.take n1).any isBig = false → ((runs H (l.take n1)).all.drop k').length ≤ ec → ec ≤ maxLen → EntsAt w' eo ((runs H (l.take n1)).all.drop k') → Two w.heap.size p q (runs H (l.take n1)) (runs H (l.take c)) w' →
            Calls Try.prog 36 #[.pointer (some ⟨q, 0, none⟩), .string (runs H (l.take n1)).head, .slice eo ((runs H (l.take n1)).all.drop k').length ec] w' fun e w2 => e = .returned (.int .i64 0) ∧ Two w.heap.size p q (runs H (l.take n1)) (runs H (l.take n1)) w2 ∧ Below w.heap.size w' w2) := fun eo ec w' h1 h2 h3 h4 h5 => by
          have h := two_take2 hS h5 (runs H (l.take n1)).head _ eo ec ⟨h2, h3, fun e he => runs_ok H hS.1 (l.take n1) (fun s hs => by have := not_big h1 s hs; omega) (by rw [HLN.out]; omega) e (List.mem_of_mem_drop he)⟩ h4 (by rw [List.length_drop, runs_len, runs_len, HLN.out, List.length_take]; omega) (runs_head H hS.1 _)
          have ht := take_own H (l.take n1) h1 c k' hk'c (by rw [HLN.out]; omega)
          rw [HTK.out] at ht
          rw [ht] at h
          exact h
        have HBJ : Hid ((part l c n1).any isBig = false → (l.take n1).any isBig = false) := fun h => any_join (by omega) HBG.out h
        have HRL : Hid ((runs H (l.take n1)).all.length = n1) := by show _ = _; rw [runs_len, HLN.out]
        have HRC : Hid ((runs H (l.take c)).all.length = c) := by show _ = _; rw [runs_len, List.length_take]; omega
        have hc1n : (0 : Int) ≤ (n1 : Int) := Int.natCast_nonneg _
        have hs1 : ∃ s1, s1 = runs H (l.take n1) := ⟨_, rfl⟩
        obtain ⟨s1, hs1⟩ := hs1
        have hs0 : ∃ s0, s0 = runs H (l.take c) := ⟨_, rfl⟩
        obtain ⟨s0, hs0⟩ := hs0
        rw [← hs1] at CA CSI CTK HRL
        rw [← hs0] at CA CSI CTK HRC HT
        have hes : ∃ es, es = s1.all.drop k' := ⟨_, rfl⟩
        obtain ⟨es, hes⟩ := hes
        rw [← hes] at CSI CTK
        have HS1 := Lib.hid hs1
        clear hpl hc1l HLN HTK hk' hk'c hg5 hs1 hs0 hes
        rcases (Decidable.em (c = cap)) with rfl | hcc
        all_goals
          cases hmb : madeB (part l c n1) with
          | false =>
            rcases hd with ⟨hd, rfl⟩ | ⟨hd, hd2⟩
            all_goals go_wp2_with fail
            all_goals
              refine (CM.out _ _ _ (fun b off hb hlt => by rw [hb]; first | omega | simp [Go.WideShapes.add_plain]) (by omega) (by omega) HB.out).mono ?_
              unfold MadeOut
              rw [hmb]
              simp only [Bool.false_eq_true, if_false]
              rintro e w3 ⟨x, rfl, hb3⟩
              have HB3 : Hid (Below w.heap.size w w3) := HB.out.trans (hb3.mono HB.out.size)
              clear hb3
              go_wp2_with fail
              refine (awake39_any _).mono ?_
              rintro e w4 ⟨rfl, hb4⟩
              have HB4 : Hid (Below w.heap.size w w4) := HB3.out.trans (hb4.mono HB3.out.size)
              clear hb4
              go_wp2_with fail
              go_ret
              exact ⟨rfl, HB4.out⟩
          | true =>
            have HMB := Lib.hid (madeB_yes hmb).2.1
            by_cases h4 : (4000 : Int) < (k : Int) * 100 + (n1 : Int)
            · rcases hd with ⟨hd, rfl⟩ | ⟨hd, hd2⟩
              all_goals go_wp2_with fail
              all_goals
                refine (CM.out _ _ _ (fun b off hb hlt => by rw [hb]; first | omega | simp [Go.WideShapes.add_plain]) (by omega) (by omega) HB.out).mono ?_
                unfold MadeOut
                rw [hmb]
                simp only [if_true]
                rintro e w3 ⟨p3, v3, rfl, _, hb3⟩
                have HB3 : Hid (Below w.heap.size w w3) := HB.out.trans (hb3.mono HB.out.size)
                clear hb3
                go_wp2_with fail
                refine (awake39_any _).mono ?_
                rintro e w4 ⟨rfl, hb4⟩
                have HB4 : Hid (Below w.heap.size w w4) := HB3.out.trans (hb4.mono HB3.out.size)
                clear hb4
                go_wp2_with fail
                go_ret
                exact ⟨rfl, HB4.out⟩
            · rcases hd with ⟨hd, rfl⟩ | ⟨hd, hd2⟩
              all_goals go_wp2_with fail
              all_goals
                refine (CM.out _ _ _ (fun b off hb hlt => by rw [hb]; first | omega | simp [Go.WideShapes.add_plain]) (by omega) (by omega) HB.out).mono ?_
                unfold MadeOut
                rw [hmb]
                simp only [if_true]
                rintro e w3 ⟨p3, v3, rfl, _, hb3⟩
                have HB3 : Hid (Below w.heap.size w w3) := HB.out.trans (hb3.mono HB.out.size)
                have HT3 := Lib.hid (HT.out.kept hb3)
                clear hb3 CM HT HB
                go_wp2_with fail
                refine (CA.out _ _ _ (fun b off hb hlt => by rw [hb]; first | omega | simp [Go.WideShapes.add_plain]) HB3.out HT3.out HMB.out).mono ?_
                rintro e w4 ⟨rfl, ht4, hb4⟩
                have HB4 : Hid (Below w.heap.size w w4) := HB3.out.trans hb4
                have HT4 := Lib.hid ht4
                clear hb4 ht4 CA HB3 HT3
                go_wp2_with fail
                refine (two_head1 HT4.out).mono ?_
                rintro e w5 ⟨rfl, rfl⟩
                go_wp2_with fail
                refine (two_len2 HT4.out (c : Int) (by rw [HRC.out])).mono ?_
                rintro e w5 ⟨rfl, rfl⟩
                go_wp2_with fail
                refine (CSI.out _ HT4.out).mono ?_
                intro e w5 ho
                obtain ⟨v5, rfl, hown5, hb5⟩ := ho
                obtain ⟨ao5, cap5, rfl, hat5, h51, h52⟩ := entsAt_owns hown5
                have HB5 : Hid (Below w.heap.size w w5) := HB4.out.trans (hb5.mono HB4.out.size)
                have HT5 := Lib.hid (HT4.out.kept hb5)
                have CT := Lib.hid (CTK.out ao5 cap5 w5 (HBJ.out HMB.out) h51 h52 hat5 HT5.out)
                clear hown5 hb5 hat5 h51 h52 CTK CSI HT4 HB4
                go_wp2_with fail
                refine CT.out.mono ?_
                rintro e w6 ⟨rfl, ht6, hb6⟩
                have HB6 : Hid (Below w.heap.size w w6) := HB5.out.trans hb6
                have HT6 := Lib.hid ht6
                clear hb6 ht6 CT HB5 HT5
                go_wp2_with fail
                refine (two_len2 HT6.out (n1 : Int) (by rw [HRL.out])).mono ?_
                rintro e w7 ⟨rfl, rfl⟩
                go_wp2_with fail
                refine (two_head2 HT6.out).mono ?_
                rintro e w7 ⟨rfl, rfl⟩
                go_wp2_with fail
                refine (two_head1 HT6.out).mono ?_
                rintro e w7 ⟨rfl, rfl⟩
                go_wp2_with fail
                refine (two_all2 HT6.out (by rw [HRL.out]; omega)).mono ?_
                intro e w7 ho
                obtain ⟨v7, rfl, hown7, hb7⟩ := ho
                obtain ⟨ao7, cap7, rfl, hat7, h71, h72⟩ := entsAt_owns hown7
                have HB7 : Hid (Below w.heap.size w w7) := HB6.out.trans (hb7.mono HB6.out.size)
                have HT7 := Lib.hid (HT6.out.kept hb7)
                have HAT7 := Lib.hid hat7
                clear hown7 hb7 hat7 h71 h72 HT6 HB6
                go_wp2_with fail
                refine (two_all1 HT7.out (by rw [HRL.out]; omega)).mono ?_
                intro e w8 ho
                obtain ⟨v8, rfl, hown8, hb8⟩ := ho
                obtain ⟨ao8, cap8, rfl, hat8, h81, h82⟩ := entsAt_owns hown8
                have HB8 : Hid (Below w.heap.size w w8) := HB7.out.trans (hb8.mono HB7.out.size)
                have HT8 := Lib.hid (HT7.out.kept hb8)
                have CSM := same39_any _ _ ao7 ao8 cap7 cap8 w8 (HAT7.out.kept hb8 (Nat.le_refl _)) hat8 (by rw [HRL.out]; omega)
                rw [decide_eq_true rfl] at CSM
                have HCSM := Lib.hid CSM
                clear hown8 hb8 hat8 h81 h82 HT7 HB7 HAT7 CSM
                go_wp2_with fail
                refine HCSM.out.mono ?_
                rintro e w9 ⟨rfl, hb9⟩
                have HB9 : Hid (Below w.heap.size w w9) := HB8.out.trans (hb9.mono HB8.out.size)
                have HT9 := Lib.hid (HT8.out.kept hb9)
                have HBG9 := Lib.hid (HBJ.out HMB.out)
                clear hb9 HCSM HT8 HB8
                go_wp2_with fail
                go_roundw
                case rel => exact ⟨k + 1, n1, by omega, by omega, by omega, rfl, by go_num, HS1.out ▸ HT9, HBG9, HB9⟩
                case measure => simp [intOf]; omega
      · obtain rfl : k = m := by omega
        clear hlt
        go_wp2_with fail
        refine (awake39_any _).mono ?_
        rintro e w3 ⟨rfl, hb3⟩
        have HB3 : Hid (Below w.heap.size w w3) := HB.out.trans (hb3.mono HB.out.size)
        clear hb3 HB
        go_wp2_with fail
        go_ret
        exact ⟨rfl, HB3.out⟩
theorem feedFollows_walk (ao : Option Addr) (cap : Nat) (l : List ByteArray) (zo : Option Addr) (zcap : Nat) (zs : List Int) (again : Int) (w : World) (hf : StrsFit l cap) (hc : StrsAt w ao l) (_ : cap * 16 ≤ 140737488351232) (hz : IntsAt w zo zs) (hzl : (zs.length : Int) ≤ 9223372036854775807) (ha : -9223372036854775808 ≤ again ∧ again ≤ 9223372036854775807) :
    Calls Try.prog 12 #[.slice ao l.length cap, .slice zo zs.length zcap, .int .i64 again] w fun e w' => e = .returned (.bool true) ∧ Below w.heap.size w w' :=
  follows_gen sum_law l ao cap zs zo zcap again w hf hc hz hzl ha
end Go.Proofs.Ytbajgpbekanodaa
