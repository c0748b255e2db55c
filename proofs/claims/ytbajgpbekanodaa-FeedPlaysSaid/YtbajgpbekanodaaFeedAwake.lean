/- The walk over pandectlaw39's awake. -/
import Derived.Test.YtbajgpbekanodaaFeedRun
import Derived.Test.YtbajgpbekanodaaDigAwake
namespace Go.Proofs.Ytbajgpbekanodaa
open Go.RowKit

def ab : List ByteArray := [⟨#[97]⟩, ⟨#[98]⟩]
theorem ab_one (H : ByteArray → ByteArray) : (runs H ab).all.drop 1 = [entOf H ab 1] := by rw [runs_drop H ab 1 (by decide), List.drop_of_length_le (by rw [runs_len]; decide)]
theorem ab_since (H : ByteArray → ByteArray) : sinceL (runs H ab).all 1 9 = [entOf H ab 1] := by rw [since_own H ab 1 9 (by decide) (by decide)]; exact ab_one H
theorem ab_all (H : ByteArray → ByteArray) : sinceL (runs H ab).all 0 9 = (runs H ab).all := by rw [since_own H ab 0 9 (by decide) (by decide)]; rfl
theorem ab_no (H : ByteArray → ByteArray) (hH : ∀ s, (H s).size = 32) : takeR H (runs H ab) ⟨#[120]⟩ [entOf H ab 1] = (runs H ab, 390) := by
  rw [← ab_one H]
  unfold takeR
  rw [runs_len, rest_own H ab ab.length 1 (by decide) (Nat.le_refl _), List.length_drop, runs_len, if_pos (Nat.le_refl _), if_neg]
  intro h
  have h2 : (runs H ab).head.size = 32 := hH _
  rw [← h] at h2
  exact absurd h2 (by decide)
theorem ab_fit (H : ByteArray → ByteArray) (hH : ∀ s, (H s).size = 32) : ∀ e ∈ (runs H ab).all, e.ok :=
  runs_ok H hH ab (fun s hs => by have : s.size ≤ 1 := (by decide : ∀ s ∈ ab, s.size ≤ 1) s hs; omega) (by decide)
theorem ab_ok (H : ByteArray → ByteArray) (hH : ∀ s, (H s).size = 32) : (entOf H ab 1).ok :=
  entOf_size H hH ab (fun s hs => by have : s.size ≤ 1 := (by decide : ∀ s ∈ ab, s.size ≤ 1) s hs; omega) 1 (by decide) (by decide)
theorem ab_head (H : ByteArray → ByteArray) : (runs H ab).head = H (entOf H ab 1).text := rfl
theorem ab_form (H : ByteArray → ByteArray) (hH : ∀ s, (H s).size = 32) : ∃ pv : ByteArray, (pv.size : Int) = 32 ∧ entOf H ab 1 = ⟨2, pv, ⟨#[98]⟩⟩ := by
  refine ⟨(runs H (ab.take 1)).head, ?_, rfl⟩
  rw [show (runs H (ab.take 1)).head.size = 32 from hH _]
  rfl
set_option maxRecDepth 100000 in
set_option maxHeartbeats 4000000 in
theorem awake39_gen {H : ByteArray → ByteArray} (hS : SumLaw H) (w : World) :
    Calls Try.prog 34 #[] w fun e w' => e = .returned (.bool true) ∧ Below w.heap.size w w' := by
  go_enter Try.func34, Try.ntmps34
  go_wp2_with fail
  refine (new_any _).mono ?_
  rintro e w1 ⟨rfl, hf1, hb1⟩
  have HF1 := Lib.hid hf1
  have HB1 := Lib.hid hb1
  have hpp : w.heap.size < w1.heap.size := hf1.lt
  clear hf1 hb1
  go_wp2_with fail
  refine (new_any _).mono ?_
  rintro e w2 ⟨rfl, hf2, hb2⟩
  have HF2 := Lib.hid hf2
  have hpq : w1.heap.size < w2.heap.size := hf2.lt
  have HF12 : Hid (FeedIn (fun k => k = w.heap.size) w.heap.size 77 stE (.slice none 0 0) w2) :=
    (HF1.out.turned (Turned.of_below (S := fun _ => False) hb2) (fun _ _ _ h => h)).reS rfl (fun k hk => by cases hk)
  have HB2 : Hid (Below w.heap.size w w2) := HB1.out.trans (hb2.mono (Nat.le_of_lt hpp))
  have HT : Hid (w.heap.size ≠ w1.heap.size) := Nat.ne_of_lt hpp
  clear hf2 hb2 HF1 HB1
  generalize hp0 : w.heap.size = p at *
  have HP := Lib.hid hp0
  clear hp0
  generalize w1.heap.size = q at *
  go_wp2_with fail
  have hbA : Below w2.heap.size w2 (w2.alloc (.cells #[.string ⟨#[97]⟩, .string ⟨#[98]⟩] 9)) := (Below.refl _ _).alloc (Nat.le_refl _) _
  refine (add_any hS ab (some ⟨w2.heap.size, 0, none⟩) 2 (fun k => k = p) p 77 stE (.slice none 0 0) _ (by decide) (by decide) (HF12.out.turned (Turned.of_below (S := fun _ => False) hbA) (fun _ _ _ h => h)) (strs_new _ _ _ _ rfl _ rfl) (fun b off hb _ h => by cases hb; omega) (by decide)).mono ?_
  rintro e w3 ⟨rfl, v3, hf3, ht3⟩
  have HF3 : Hid (FeedIn (fun k => k ≠ q) p 77 (runs H ab) v3 w3) := hf3.reS HT.out fun k hk => by
    rcases hf3.mine.2 k hk with h | h
    · rw [h]; exact HT.out
    · have := hbA.size; omega
  have HM3 : Hid (FeedIn (fun k => k = q) q 77 stE (.slice none 0 0) w3) :=
    (((HF2.out.reS (T := fun k => k = q) rfl (fun k hk => by cases hk)).turned (Turned.of_below (S := fun _ => False) hbA) (fun _ _ _ h => h))).turned ht3 (fun k hk _ h => HT.out (h.symm.trans hk))
  have HB3 : Hid (Below p w w3) := HB2.out.trans ((hbA.mono (by omega)).trans (ht3.below (fun k hk => by omega) (by have := hbA.size; omega)))
  have hq3 : q < w3.heap.size := HM3.out.lt
  clear hf3 ht3 hbA HF12 HF2 HB2
  go_wp2_with fail
  refine (len_feed HF3.out 2 (by rw [runs_len]; rfl)).mono ?_
  rintro e w4 ⟨rfl, rfl⟩
  go_wp2_with fail
  refine (since_any _ p _ _ v3 1 9 _ HF3.out (by rw [runs_len]; decide)).mono ?_
  intro e w5 ho
  rw [ab_since] at ho
  obtain ⟨v, rfl, hown, hb5⟩ := ho
  obtain ⟨g, cap, rfl, hXg, hat5, hc5, hg, hcap1, hcapm⟩ := one_ent hown
  have HFIT : Hid (EntsFit [entOf H ab 1] cap) := ⟨hcap1, hcapm, fun e he => by rw [List.mem_singleton.1 he]; exact ab_ok H hS.1⟩
  have HAT5 := Lib.hid hat5
  obtain ⟨pv, hpv, hform⟩ := ab_form H hS.1
  rw [hform] at hc5
  obtain ⟨y0, y1, y2⟩ := hc5
  simp only at y0 y1 y2
  have HFORM := Lib.hid hform
  have HB5 : Hid (Below p w w5) := HB3.out.trans (hb5.mono (by omega))
  have HF5 := Lib.hid (HF3.out.turned (Turned.of_below (S := fun _ => False) hb5) (fun _ _ _ h => h))
  have HM5 := Lib.hid (HM3.out.turned (Turned.of_below (S := fun _ => False) hb5) (fun _ _ _ h => h))
  have hgq : ¬ g = q := by omega
  unfold maxLen at hcapm
  clear hat5 hform hb5 hown HF3 HM3 HB3 hXg
  have hbq : ((⟨#[98]⟩ : ByteArray).toList == [98]) = true := by decide +kernel
  have hg1 : (1 : Int) ≤ (cap : Int) := by omega
  go_wp2_with fail
  refine (head_feed HF5.out).mono ?_
  rintro e w6 ⟨rfl, rfl⟩
  have HHD := Lib.hid (ab_head H)
  generalize hhd : (runs H ab).head = hd at *
  have HHH := Lib.hid hhd
  clear hhd
  go_wp2_with fail
  refine (since_any _ p _ _ v3 0 9 _ HF5.out (by rw [runs_len]; decide)).mono ?_
  intro e w6 ho
  rw [ab_all] at ho
  obtain ⟨v6, rfl, hown6, hb6⟩ := ho
  obtain ⟨ao6, cap6, rfl, hat6, h61, h62⟩ := entsAt_owns hown6
  have HAT6 := Lib.hid hat6
  have HFIT6 : Hid (EntsFit (runs H ab).all cap6) := ⟨h61, h62, ab_fit H hS.1⟩
  have HB6 : Hid (Below p w w6) := HB5.out.trans (hb6.mono (by have := HM5.out.lt; omega))
  have HF6 := Lib.hid (HF5.out.turned (Turned.of_below (S := fun _ => False) hb6) (fun _ _ _ h => h))
  have HM6 := Lib.hid (HM5.out.turned (Turned.of_below (S := fun _ => False) hb6) (fun _ _ _ h => h))
  have HC6 := Lib.hid (HAT5.out.kept hb6 (Nat.le_refl _))
  have y0 := (hb6.cell (World.block_lt_of_cell? _ _ y0)).trans y0
  have y1 := (hb6.cell (World.block_lt_of_cell? _ _ y1)).trans y1
  have y2 := (hb6.cell (World.block_lt_of_cell? _ _ y2)).trans y2
  have hg6 : g < w6.heap.size := Nat.lt_of_lt_of_le hg hb6.size
  have CT := Lib.hid (take_any hS (fun k => k = q) q stE (.slice none 0 0) hd (runs H ab).all ao6 cap6 w6 HM6.out HFIT6.out HAT6.out (by rw [runs_len]; decide) (by decide))
  have HTR := take_own H ab (by decide) 0 0 (Nat.le_refl _) (by decide)
  rw [HHH.out] at HTR
  have HTR : takeR H stE hd (runs H ab).all = (runs H ab, 0) := HTR
  rw [HTR] at CT
  clear hat6 h61 h62 hb6 hown6 HTR hg HM5 HF5 HAT5 HB5
  go_wp2_with fail
  refine CT.out.mono ?_
  rintro e w7 ⟨rfl, v7, hf7, ht7⟩
  have HF7 := Lib.hid (HF6.out.turned ht7 (fun k hk _ h => hk h))
  have HM7 := Lib.hid hf7
  have HB7 : Hid (Below p w w7) := HB6.out.trans (ht7.below (fun k hk => by omega) (by have := HM6.out.lt; omega))
  have HC7 := Lib.hid (HC6.out.turned ht7 (fun b off hb h => by cases hb; exact hgq h))
  have y0 := (ht7.cell hg6 hgq).trans y0
  have y1 := (ht7.cell hg6 hgq).trans y1
  have y2 := (ht7.cell hg6 hgq).trans y2
  have hg7 : g < w7.heap.size := Nat.lt_of_lt_of_le hg6 ht7.size
  clear hf7 ht7 CT HB6 HF6 HM6 HC6 HFIT6 HAT6 hg6
  go_wp2_with fail
  refine (len_feed HM7.out 2 (by rw [runs_len]; rfl)).mono ?_
  rintro e w8 ⟨rfl, rfl⟩
  have CT := Lib.hid (take_any hS _ q _ _ ⟨#[120]⟩ [entOf H ab 1] _ cap _ HM7.out HFIT.out HC7.out (by rw [runs_len]; show 2 + 1 ≤ 1000000; omega) (runs_head H hS.1 ab))
  rw [ab_no H hS.1] at CT
  go_wp2_with fail
  refine CT.out.mono ?_
  rintro e w9 ⟨rfl, v9, hf9, ht9⟩
  have HF9 := Lib.hid (HF7.out.turned ht9 (fun k hk _ h => hk h))
  have HB9 : Hid (Below p w w9) := HB7.out.trans (ht9.below (fun k hk => by omega) (by have := HM7.out.lt; omega))
  have y0 := (ht9.cell hg7 hgq).trans y0
  have y1 := (ht9.cell hg7 hgq).trans y1
  have y2 := (ht9.cell hg7 hgq).trans y2
  have CH := Lib.hid (fun w => feedHash_any hS (entOf H ab 1) (ab_ok H hS.1) w)
  rw [← HHD.out, HFORM.out] at CH
  clear hf9 ht9 CT HB7 HF7 HM7 HC7 hg7
  go_wp2_with fail
  refine (CH.out _).mono ?_
  rintro e w10 ⟨rfl, hb10⟩
  have HF10 := Lib.hid (HF9.out.turned (Turned.of_below (S := fun _ => False) hb10) (fun _ _ _ h => h))
  have HB10 : Hid (Below p w w10) := HB9.out.trans (hb10.mono (by have := HF9.out.lt; omega))
  clear hb10 CH HF9 HB9
  go_wp2_with fail
  refine (head_feed HF10.out).mono ?_
  rintro e w11 ⟨rfl, rfl⟩
  rw [HHH.out]
  go_wp2_with fail
  go_ret
  exact ⟨rfl, by rw [HP.out]; exact HB10.out⟩
theorem awake39_any (w : World) : Calls Try.prog 34 #[] w fun e w' => e = .returned (.bool true) ∧ Below w.heap.size w w' := awake39_gen sum_law w
end Go.Proofs.Ytbajgpbekanodaa
