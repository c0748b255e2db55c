/- The walk over pandectlaw39's FeedClash. -/
import Derived.Test.YtbajgpbekanodaaFeedClashN
import Derived.Test.YtbajgpbekanodaaFeedClashA
import Derived.Test.YtbajgpbekanodaaFeedChain
namespace Go.Proofs.Ytbajgpbekanodaa
open Go.RowKit

set_option maxRecDepth 100000 in
set_option maxHeartbeats 8000000 in
theorem cw_no (ao : Option Addr) (n cap : Nat) (hv : Int) (eo : Option Addr) (k ec : Nat) (w : World) (C : Calls Try.prog 32 #[.slice ao n cap] w fun e w' => ∃ x, e = .returned (.tuple #[x, .bool false]) ∧ Below w.heap.size w w') :
    Calls Try.prog 10 #[.slice ao n cap, .int .i64 hv, .slice eo k ec] w fun e w' => e = .returned (.bool true) ∧ Below w.heap.size w w' := by
  have HC := Lib.hid C
  clear C
  go_enter Try.func10, Try.ntmps10
  go_wp2_with fail
  refine HC.out.mono ?_
  rintro e w1 ⟨x, rfl, hb1⟩
  have HB1 := Lib.hid hb1
  clear hb1 HC
  go_wp2_with fail
  refine (awake39_any w1).mono ?_
  rintro e w2 ⟨rfl, hb2⟩
  have HB2 : Hid (Below w.heap.size w w2) := HB1.out.trans (hb2.mono HB1.out.size)
  clear hb2 HB1
  go_wp2_with fail
  go_ret
  exact ⟨rfl, HB2.out⟩

set_option maxRecDepth 100000 in
set_option maxHeartbeats 8000000 in
theorem cw_few (ao : Option Addr) (n cap : Nat) (hv : Int) (eo : Option Addr) (k ec : Nat) (w : World) (fw : Bool) (hvb : fw = false ∨ hv < 0 ∨ (n : Int) < hv)
    (C : Calls Try.prog 32 #[.slice ao n cap] w fun e w' => ∃ p, e = .returned (.tuple #[.pointer (some ⟨p, 0, none⟩), .bool true]) ∧ Below w.heap.size w w')
    (CF : Hid (∀ w', Below w.heap.size w w' → Calls Try.prog 33 #[.slice eo k ec] w' fun e w'' => e = .returned (.bool fw) ∧ Below w'.heap.size w' w'')) :
    Calls Try.prog 10 #[.slice ao n cap, .int .i64 hv, .slice eo k ec] w fun e w' => e = .returned (.bool true) ∧ Below w.heap.size w w' := by
  have HC := Lib.hid C
  clear C
  cases fw with
  | false =>
    clear hvb
    go_enter Try.func10, Try.ntmps10
    go_wp2_with fail
    refine HC.out.mono ?_
    rintro e w1 ⟨p, rfl, hb1⟩
    have HB1 := Lib.hid hb1
    clear hb1 HC
    go_wp2_with fail
    refine (CF.out _ HB1.out).mono ?_
    rintro e w2 ⟨rfl, hb2⟩
    have HB2 : Hid (Below w.heap.size w w2) := HB1.out.trans (hb2.mono HB1.out.size)
    clear hb2 HB1
    go_wp2_with fail
    refine (awake39_any w2).mono ?_
    rintro e w3 ⟨rfl, hb3⟩
    have HB3 : Hid (Below w.heap.size w w3) := HB2.out.trans (hb3.mono HB2.out.size)
    clear hb3 HB2
    go_wp2_with fail
    go_ret
    exact ⟨rfl, HB3.out⟩
  | true =>
    by_cases hneg : hv < 0
    · clear hvb
      go_enter Try.func10, Try.ntmps10
      go_wp2_with fail
      refine HC.out.mono ?_
      rintro e w1 ⟨p, rfl, hb1⟩
      have HB1 := Lib.hid hb1
      clear hb1 HC
      go_wp2_with fail
      refine (CF.out _ HB1.out).mono ?_
      rintro e w2 ⟨rfl, hb2⟩
      have HB2 : Hid (Below w.heap.size w w2) := HB1.out.trans (hb2.mono HB1.out.size)
      clear hb2 HB1
      go_wp2_with fail
      refine (awake39_any w2).mono ?_
      rintro e w3 ⟨rfl, hb3⟩
      have HB3 : Hid (Below w.heap.size w w3) := HB2.out.trans (hb3.mono HB2.out.size)
      clear hb3 HB2
      go_wp2_with fail
      go_ret
      exact ⟨rfl, HB3.out⟩
    · have hbig : (n : Int) < hv := by
        rcases hvb with h | h | h
        · cases h
        · omega
        · exact h
      clear hvb
      go_enter Try.func10, Try.ntmps10
      go_wp2_with fail
      refine HC.out.mono ?_
      rintro e w1 ⟨p, rfl, hb1⟩
      have HB1 := Lib.hid hb1
      clear hb1 HC
      go_wp2_with fail
      refine (CF.out _ HB1.out).mono ?_
      rintro e w2 ⟨rfl, hb2⟩
      have HB2 : Hid (Below w.heap.size w w2) := HB1.out.trans (hb2.mono HB1.out.size)
      clear hb2 HB1
      go_wp2_with fail
      refine (awake39_any w2).mono ?_
      rintro e w3 ⟨rfl, hb3⟩
      have HB3 : Hid (Below w.heap.size w w3) := HB2.out.trans (hb3.mono HB2.out.size)
      clear hb3 HB2
      go_wp2_with fail
      go_ret
      exact ⟨rfl, HB3.out⟩

set_option maxRecDepth 100000 in
set_option maxHeartbeats 8000000 in
theorem cw_main {H : ByteArray → ByteArray} (hS : SumLaw H) (l : List ByteArray) (ao : Option Addr) (cap hv : Nat) (es : List Fd.Ent) (eo : Option Addr) (ec : Nat) (w : World) (hf : StrsFit l cap) (hc : StrsAt w ao l) (hm : madeB l = true) (hhv : (hv : Int) ≤ (l.length : Int))
    (hec : EntsAt w eo es) (hefit : es.length ≤ ec ∧ ec ≤ maxLen) (hfew : es.length ≤ 300)
    (CF : Hid (∀ w', Below w.heap.size w w' → Calls Try.prog 33 #[.slice eo es.length ec] w' fun e w'' => e = .returned (.bool true) ∧ Below w'.heap.size w' w'')) :
    Calls Try.prog 10 #[.slice ao l.length cap, .int .i64 (hv : Int), .slice eo es.length ec] w fun e w' => e = .returned (.bool true) ∧ Below w.heap.size w w' := by
  have C0 := made_any hS l ao cap w hf hc
  unfold MadeOut at C0
  simp only [hm, if_true] at C0
  have HC0 := Lib.hid C0
  obtain ⟨_, hbg, hl150⟩ := madeB_yes hm
  have hmt := madeB_take hm hv
  have hbgt : (l.take hv).any isBig = false := any_part (fun s hs => List.mem_of_mem_take hs) hbg
  have hlt : (l.take hv).length = hv := by rw [List.length_take]; omega
  have HC := Lib.hid hc
  have HEC := Lib.hid hec
  have hcap : (l.length : Int) ≤ (cap : Int) := by have := hf.1; omega
  have hcapm : (cap : Int) ≤ 9223372036854775807 := by have := hf.2.1; unfold maxLen at this; omega
  have CM : Hid (∀ (bo : Option Addr) (cb : Nat) (w' : World), (∀ b off, ao = some ⟨b, off, none⟩ → 0 < hv → bo = some ⟨b, off, none⟩) → hv ≤ cb → (cb : Int) ≤ 9223372036854775807 → Below w.heap.size w w' → Calls Try.prog 32 #[.slice bo hv cb] w' fun e w'' => ∃ p v, e = .returned (.tuple #[.pointer (some ⟨p, 0, none⟩), .bool true]) ∧ FeedIn (fun k => w'.heap.size ≤ k) p 77 (runs H (l.take hv)) v w'' ∧ Below w'.heap.size w' w'') := fun bo cb w' h1 h2 h3 h4 => by
    have h := made_any hS (l.take hv) bo cb w' ⟨by rw [hlt]; exact h2, by unfold maxLen; omega, fun s hs => hf.2.2 s (List.mem_of_mem_take hs)⟩ (fun i hi => by
      rw [hlt] at hi
      obtain ⟨b, off, hb, hlt2, hcl⟩ := (hc.kept h4 (Nat.le_refl _)) i (by omega)
      refine ⟨b, off, h1 b off hb (by omega), hlt2, ?_⟩
      rw [hcl, List.getD_eq_getElem?_getD, List.getD_eq_getElem?_getD, List.getElem?_take_of_lt (by omega)])
    unfold MadeOut at h
    simp only [hmt, if_true] at h
    rw [hlt] at h
    exact h
  -- the states
  obtain ⟨F, hF⟩ : ∃ F, F = runs H l := ⟨_, rfl⟩
  obtain ⟨st, hst⟩ : ∃ st, st = runs H (l.take hv) := ⟨_, rfl⟩
  have hFl : F.all.length ≤ 150 := by rw [hF, runs_len]; exact hl150
  have hstl : st.all.length ≤ 150 := by rw [hst, runs_len, hlt]; omega
  have hFok : ∀ e ∈ F.all, e.ok := by rw [hF]; exact runs_ok H hS.1 l (fun s hs => by have := not_big hbg s hs; omega) (by omega)
  have hstok : ∀ e ∈ st.all, e.ok := by rw [hst]; exact runs_ok H hS.1 (l.take hv) (fun s hs => by have := not_big hbgt s hs; omega) (by omega)
  have hsth : st.head.size ≤ 32 := by rw [hst]; exact runs_head H hS.1 _
  have hTO := take_ok H hS.1 st F.head es hstok hsth (by omega) (by rw [hst]; exact runs_chained H _)
  have CT : Hid (∀ (p q : Nat) (w' : World), Two w.heap.size p q F st w' → EntsAt w' eo es → Calls Try.prog 36 #[.pointer (some ⟨q, 0, none⟩), .string F.head, .slice eo es.length ec] w' fun e w'' => e = .returned (.int .i64 (takeR H st F.head es).2) ∧ Two w.heap.size p q F (takeR H st F.head es).1 w'' ∧ Below w.heap.size w' w'' ∧ Turned (fun k => k = q) w' w'') := fun p q w' h1 h2 =>
    two_take2t hS h1 F.head es eo ec hefit h2 (by omega) hsth
  have hCl : ∀ r, (takeR H st F.head es).1 = r → (takeR H st F.head es).2 = 0 → r.all ≠ F.all → ∃ t u, clashR H r.all F.all = (t, u, true) ∧ t ≠ u ∧ H t = H u ∧ t.size ≤ 149000000000100 ∧ u.size ≤ 149000000000100 := fun r h1 h2 h3 => by
    subst h1
    refine clash_heads hS.1 hTO.2.2.2.1 (by rw [hF]; exact runs_chained H l) hTO.1 hFok ?_ h3
    rcases hTO.2.2.2.2 with ⟨h, _⟩ | ⟨_, h⟩
    · rw [h] at h2; cases h2
    · exact h
  rw [← hF] at HC0
  rw [← hst] at CM
  generalize hs2 : (takeR H st F.head es).1 = s2 at *
  generalize hee : (takeR H st F.head es).2 = ee at *
  have hs2l : s2.all.length ≤ 450 := by have := hTO.2.1; omega
  have hs2ok := Lib.hid hTO.1
  have hout := hTO.2.2.2.2
  have HCl := Lib.hid (hCl s2 rfl)
  have HFOK := Lib.hid hFok
  have HFL := Lib.hid hFl
  have HSTL := Lib.hid hstl
  have HS2L := Lib.hid hs2l
  generalize l.length = n at *
  generalize es.length = m at *
  clear C0 hc hf hm hbg hbgt hmt hlt hec hefit hF hst hFl hstl hFok hstok hsth hTO hCl hs2 hee hs2l hl150 hfew
  have hv0 : (0 : Int) ≤ (hv : Int) := Int.natCast_nonneg _
  rcases (Decidable.em (cap = 0)) with rfl | hcc
  all_goals
    go_enter Try.func10, Try.ntmps10
    go_wp2_with fail
    refine HC0.out.mono ?_
    rintro e w1 ⟨p, v, rfl, hf1, hb1⟩
    have HF1 := Lib.hid hf1
    have HB1 := Lib.hid hb1
    clear hf1 hb1 HC0
    go_wp2_with fail
    refine (CF.out _ HB1.out).mono ?_
    rintro e w2 ⟨rfl, hb2⟩
    have HF2 := Lib.hid (HF1.out.turned (Turned.of_below (S := fun _ => False) hb2) (fun _ _ _ h => h))
    have HB2 : Hid (Below w.heap.size w w2) := HB1.out.trans (hb2.mono HB1.out.size)
    clear hb2 HB1 HF1
    go_wp2_with fail
    refine (CM.out _ _ _ (fun b off hb hlt => by rw [hb]) (by omega) (by omega) HB2.out).mono ?_
    rintro e w3 ⟨q, v3, rfl, hf3, hb3⟩
    have HT3 := Lib.hid (Two.make HF2.out HB2.out.size hb3 hf3)
    have HB3 : Hid (Below w.heap.size w w3) := HB2.out.trans (hb3.mono HB2.out.size)
    clear hf3 hb3 CM HF2 HB2 CF
    go_wp2_with fail
    refine (two_all2 HT3.out (by have := HSTL.out; omega)).mono ?_
    intro e w4 ho
    obtain ⟨v4, rfl, hown4, hb4⟩ := ho
    obtain ⟨ao4, cap4, rfl, hat4, _, _, hnew4⟩ := ents_new hown4
    have HNE : Hid (∀ b off, ao4 = some ⟨b, off, none⟩ → ¬ b = q) := fun b off h1 h2 => by have h3 := hnew4 b off h1; have h4 := HT3.out.lt2; omega
    have HB4 : Hid (Below w.heap.size w w4) := HB3.out.trans (hb4.mono HB3.out.size)
    have HT4 := Lib.hid (HT3.out.kept hb4)
    have HAT4 := Lib.hid hat4
    have HLA : Hid ((st.all.length : Int) ≤ 9223372036854775807) := by have := HSTL.out; show _ ≤ _; omega
    have HLB : Hid ((s2.all.length : Int) ≤ 9223372036854775807) := by have := HS2L.out; show _ ≤ _; omega
    clear hown4 hb4 hat4 hnew4 HT3 HB3
    go_wp2_with fail
    refine (two_head1 HT4.out).mono ?_
    rintro e w5 ⟨rfl, rfl⟩
    go_wp2_with fail
    refine (CT.out p q _ HT4.out (HEC.out.kept HB4.out (Nat.le_refl _))).mono ?_
    rintro e w5 ⟨rfl, ht5, hb5, htt⟩
    have HT5 := Lib.hid ht5
    have HB5 : Hid (Below w.heap.size w w5) := HB4.out.trans hb5
    have HAT5 := Lib.hid (HAT4.out.turned htt (fun b off h1 h2 => HNE.out b off h1 h2))
    clear ht5 hb5 htt CT HT4 HB4 HAT4 HNE HEC HC
    rcases hout with ⟨rfl, rfl⟩ | ⟨rfl, hhead⟩
    · go_wp2_with fail
      refine (two_all2 HT5.out (by have := HSTL.out; omega)).mono ?_
      intro e w6 ho
      obtain ⟨v6, rfl, hown6, hb6⟩ := ho
      obtain ⟨ao6, cap6, rfl, hat6, _, _⟩ := entsAt_owns hown6
      have HB6 : Hid (Below w.heap.size w w6) := HB5.out.trans (hb6.mono HB5.out.size)
      have CSM := same39_any _ _ ao6 ao4 cap6 cap4 w6 hat6 (HAT5.out.kept hb6 (Nat.le_refl _)) HLA.out
      rw [decide_eq_true rfl] at CSM
      have HCSM := Lib.hid CSM
      clear hown6 hb6 hat6 HB5 HT5 HAT5 CSM
      go_wp2_with fail
      refine HCSM.out.mono ?_
      rintro e w7 ⟨rfl, hb7⟩
      have HB7 : Hid (Below w.heap.size w w7) := HB6.out.trans (hb7.mono HB6.out.size)
      clear hb7 HCSM HB6
      go_wp2_with fail
      refine (awake39_any w7).mono ?_
      rintro e w8 ⟨rfl, hb8⟩
      have HB8 : Hid (Below w.heap.size w w8) := HB7.out.trans (hb8.mono HB7.out.size)
      clear hb8 HB7
      go_wp2_with fail
      go_ret
      exact ⟨rfl, HB8.out⟩
    · clear hhead
      go_wp2_with fail
      refine (two_all2 HT5.out (by have := HS2L.out; omega)).mono ?_
      intro e w6 ho
      obtain ⟨v6, rfl, hown6, hb6⟩ := ho
      obtain ⟨ao6, cap6, rfl, hat6, _, _⟩ := entsAt_owns hown6
      have HB6 : Hid (Below w.heap.size w w6) := HB5.out.trans (hb6.mono HB5.out.size)
      have HT6 := Lib.hid (HT5.out.kept hb6)
      have HAT6 := Lib.hid hat6
      clear hown6 hb6 hat6 HB5 HT5 HAT5
      go_wp2_with fail
      refine (two_all1 HT6.out (by have := HFL.out; omega)).mono ?_
      intro e w7 ho
      obtain ⟨v7, rfl, hown7, hb7⟩ := ho
      obtain ⟨ao7, cap7, rfl, hat7, _, _⟩ := entsAt_owns hown7
      have HB7 : Hid (Below w.heap.size w w7) := HB6.out.trans (hb7.mono HB6.out.size)
      have HT7 := Lib.hid (HT6.out.kept hb7)
      have CSM := same39_any _ _ ao6 ao7 cap6 cap7 w7 (HAT6.out.kept hb7 (Nat.le_refl _)) hat7 HLB.out
      have HCSM := Lib.hid CSM
      clear hown7 hb7 hat7 HB6 HT6 HAT6 CSM
      by_cases hsm : s2.all = F.all
      · rw [decide_eq_true hsm] at HCSM
        clear hsm
        go_wp2_with fail
        refine HCSM.out.mono ?_
        rintro e w8 ⟨rfl, hb8⟩
        have HB8 : Hid (Below w.heap.size w w8) := HB7.out.trans (hb8.mono HB7.out.size)
        clear hb8 HCSM HB7
        go_wp2_with fail
        refine (awake39_any w8).mono ?_
        rintro e w9 ⟨rfl, hb9⟩
        have HB9 : Hid (Below w.heap.size w w9) := HB8.out.trans (hb9.mono HB8.out.size)
        clear hb9 HB8
        go_wp2_with fail
        go_ret
        exact ⟨rfl, HB9.out⟩
      · rw [decide_eq_false hsm] at HCSM
        obtain ⟨t, u, hcr, htu, hHtu, hts, hus⟩ := HCl.out trivial hsm
        have hne : (t.toList == u.toList) = false := by rw [beq_eq_false_iff_ne]; exact toList_ne htu
        have hne2 : (t.toList != u.toList) = true := by unfold bne; rw [hne]; rfl
        have CS1 : Hid (∀ (ao : Option Addr) (w : World) (h : StrsAt w ao [t]), Calls Try.prog 20 #[.slice ao 1 1] w fun e w' => e = .returned (.string (H t)) ∧ Below w.heap.size w w') := fun ao w h => sum_one hS t (by omega) ao w h
        have CS2 : Hid (∀ (ao : Option Addr) (w : World) (h : StrsAt w ao [u]), Calls Try.prog 20 #[.slice ao 1 1] w fun e w' => e = .returned (.string (H u)) ∧ Below w.heap.size w w') := fun ao w h => sum_one hS u (by omega) ao w h
        rw [← hHtu] at CS2
        have hqq : ((H t).toList == (H t).toList) = true := by simp
        have HCR := Lib.hid hcr
        clear hsm htu hHtu hts hus hcr HCl
        generalize H t = d at *
        go_wp2_with fail
        refine HCSM.out.mono ?_
        rintro e w8 ⟨rfl, hb8⟩
        have HB8 : Hid (Below w.heap.size w w8) := HB7.out.trans (hb8.mono HB7.out.size)
        have HT8 := Lib.hid (HT7.out.kept hb8)
        clear hb8 HCSM HB7 HT7
        go_wp2_with fail
        refine (two_all2 HT8.out (by have := HS2L.out; omega)).mono ?_
        intro e w9 ho
        obtain ⟨v9, rfl, hown9, hb9⟩ := ho
        obtain ⟨ao9, cap9, rfl, hat9, _, _⟩ := entsAt_owns hown9
        have HB9 : Hid (Below w.heap.size w w9) := HB8.out.trans (hb9.mono HB8.out.size)
        have HT9 := Lib.hid (HT8.out.kept hb9)
        have HAT9 := Lib.hid hat9
        clear hown9 hb9 hat9 HB8 HT8
        go_wp2_with fail
        refine (two_all1 HT9.out (by have := HFL.out; omega)).mono ?_
        intro e w10 ho
        obtain ⟨v10, rfl, hown10, hb10⟩ := ho
        obtain ⟨ao10, cap10, rfl, hat10, _, _⟩ := entsAt_owns hown10
        have HB10 : Hid (Below w.heap.size w w10) := HB9.out.trans (hb10.mono HB9.out.size)
        have CCL := clash_any39 hS s2.all F.all ao9 ao10 cap9 cap10 w10 (HAT9.out.kept hb10 (Nat.le_refl _)) hat10 hs2ok.out HFOK.out (by have := HS2L.out; omega) (by have := HFL.out; omega)
        rw [HCR.out] at CCL
        have HCCL := Lib.hid CCL
        clear hown10 hb10 hat10 HB9 HT9 HAT9 CCL
        go_wp2_with fail
        refine HCCL.out.mono ?_
        rintro e w11 ⟨rfl, hb11⟩
        have HB11 : Hid (Below w.heap.size w w11) := HB10.out.trans (hb11.mono HB10.out.size)
        clear hb11 HCCL HB10
        go_wp2_with fail
        refine (CS1.out _ _ (strs_new _ _ _ _ rfl _ rfl)).mono ?_
        rintro e w12 ⟨rfl, hb12⟩
        have hk12 := HB11.out.alloc HB11.out.size (.cells #[.string t] 9)
        have HB12 : Hid (Below w.heap.size w w12) := hk12.trans (hb12.mono hk12.size)
        clear hb12 hk12 HB11
        go_wp2_with fail
        refine (CS2.out _ _ (strs_new _ _ _ _ rfl _ rfl)).mono ?_
        rintro e w13 ⟨rfl, hb13⟩
        have hk13 := HB12.out.alloc HB12.out.size (.cells #[.string u] 9)
        have HB13 : Hid (Below w.heap.size w w13) := hk13.trans (hb13.mono hk13.size)
        clear hb13 hk13 HB12
        go_wp2_with fail
        refine (awake39_any w13).mono ?_
        rintro e w14 ⟨rfl, hb14⟩
        have HB14 : Hid (Below w.heap.size w w14) := HB13.out.trans (hb14.mono HB13.out.size)
        clear hb14 HB13
        go_wp2_with fail
        go_ret
        exact ⟨rfl, HB14.out⟩
theorem feedClash_walk (ao : Option Addr) (cap : Nat) (l : List ByteArray) (hv : Int) (eo : Option Addr) (ec : Nat) (es : List Fd.Ent) (w : World) (hf : StrsFit l cap) (hc : StrsAt w ao l) (_ : cap * 16 ≤ 140737488351232) (_ : -9223372036854775808 ≤ hv ∧ hv ≤ 9223372036854775807)
    (hec : EntsAt w eo es) (hem : EntsMost es) (hefit : es.length ≤ ec ∧ ec ≤ maxLen) :
    Calls Try.prog 10 #[.slice ao l.length cap, .int .i64 hv, .slice eo es.length ec] w fun e w' => e = .returned (.bool true) ∧ Below w.heap.size w w' := by
  have C := made_any sum_law l ao cap w hf hc
  unfold MadeOut at C
  cases hm : madeB l with
  | false =>
    simp only [hm, Bool.false_eq_true, if_false] at C
    exact cw_no ao l.length cap hv eo es.length ec w C
  | true =>
    simp only [hm, if_true] at C
    have hl : (es.length : Int) ≤ 9223372036854775807 := by have h1 := hefit.1; have h2 := hefit.2; unfold maxLen at h2; omega
    have CF : Hid (∀ w', Below w.heap.size w w' → Calls Try.prog 33 #[.slice eo es.length ec] w' fun e w'' => e = .returned (.bool (fewB es)) ∧ Below w'.heap.size w' w'') := fun w' hb => few_any es eo ec w' (hec.kept hb (Nat.le_refl _)) hl hem
    by_cases hvb : fewB es = false ∨ hv < 0 ∨ (l.length : Int) < hv
    · exact cw_few ao l.length cap hv eo es.length ec w (fewB es) hvb (C.mono fun e w' h => by obtain ⟨p, v, h1, _, h2⟩ := h; exact ⟨p, h1, h2⟩) CF
    · have h1 : fewB es = true := by
        cases h : fewB es with
        | true => rfl
        | false => exact absurd (Or.inl h) hvb
      obtain ⟨n, rfl⟩ := Int.eq_ofNat_of_zero_le (a := hv) (by omega)
      rw [h1] at CF
      exact cw_main sum_law l ao cap n es eo ec w hf hc hm (by omega) hec hefit (few_len h1) CF
end Go.Proofs.Ytbajgpbekanodaa
