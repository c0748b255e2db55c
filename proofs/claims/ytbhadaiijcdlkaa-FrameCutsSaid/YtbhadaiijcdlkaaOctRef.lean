/- The walks over the document's TakeNumber (pandectref01): what each call returns. Condition: the text is at most maxLen bytes. -/
import Derived.Test.YtbhadaiijcdlkaaOctTake
import Derived.Test.YtbhadaiijcdlkaaRegionB
namespace Go.Proofs.Ytbhadaiijcdlkaa
open Go.RowKit

set_option maxRecDepth 100000 in
set_option maxHeartbeats 400000 in
theorem refTake_out (s : ByteArray) (p : Int) (w : World) (h : p < 0 ∨ (s.size : Int) < p) :
    Calls Try.prog 33 #[.string s, .int .i64 p] w fun e w' => e = .returned (.tuple #[.int .u64 0, .int .i64 0, .int .i64 2]) ∧ Below w.heap.size w w' := by
  by_cases h1 : p < 0
  · clear h
    go_enter Try.func33, Try.ntmps33
    go_wp2_with fail
    go_ret3
    exact ⟨rfl, Below.refl _ _⟩
  · have h2 : (s.size : Int) < p := by rcases h with h | h <;> omega
    clear h
    go_enter Try.func33, Try.ntmps33
    go_wp2_with fail
    go_ret3
    exact ⟨rfl, Below.refl _ _⟩

set_option maxRecDepth 100000 in
set_option maxHeartbeats 1000000 in
theorem refTake_end (s : ByteArray) (w : World) :
    Calls Try.prog 33 #[.string s, .int .i64 (s.size : Int)] w fun e w' => e = .returned (.tuple #[.int .u64 0, .int .i64 0, .int .i64 10]) ∧ Below w.heap.size w w' := by
  have hx : s.extract s.size s.size = ByteArray.empty := by
    apply ByteArray.ext
    simp
  go_enter Try.func33, Try.ntmps33
  go_wp2_with fail
  go_ret3
  exact ⟨rfl, Below.refl _ _⟩

set_option maxRecDepth 100000 in
set_option maxHeartbeats 1000000 in
theorem refTake_small (s t : ByteArray) (p : Nat) (w : World) (hx : s.extract p s.size = t) (hp2 : (p : Int) < (s.size : Int)) (hs2 : (s.size : Int) ≤ 9223372036854775807) (ht : 0 < t.size) (hne : (t.toList == []) = false) (x : Nat) (hb : t[0].toNat = x) (h248 : (x : Int) ≤ 247) :
    Calls Try.prog 33 #[.string s, .int .i64 (p : Int)] w fun e w' => e = .returned (.tuple #[.int .u64 (x : Int), .int .i64 ((p : Int) + 1), .int .i64 0]) ∧ Below w.heap.size w w' := by
  have ht2 : (0 : Int) < (t.size : Int) := by omega
  have hp3 : (p : Int) ≤ (s.size : Int) := by omega
  go_enter Try.func33, Try.ntmps33
  go_wp2_with fail
  go_ret3
  exact ⟨rfl, Below.refl _ _⟩

set_option maxRecDepth 100000 in
set_option maxHeartbeats 2000000 in
theorem refTake_big (s t : ByteArray) (p k : Nat) (w : World) (hx : s.extract p s.size = t) (hp2 : (p : Int) < (s.size : Int)) (hs2 : (s.size : Int) ≤ 9223372036854775807) (hts : (t.size : Int) + p = (s.size : Int)) (ht : 0 < t.size) (hne : (t.toList == []) = false) (X : Int) (hb : (t[0].toNat : Int) = X)
    (hXk : X - 247 = (k : Int)) (hk1 : (1 : Int) ≤ (k : Int)) (hk8 : (k : Int) ≤ 8)
    (n : Nat) (hn : n = Oct.un ((t.data.toList.drop 1).take k)) (hn64 : (n : Int) < 18446744073709551616) (B : Bool) (hB : (!((Oct.numB n).toList == (t.extract 0 (k + 1)).toList)) = B) (r : Nat × Nat × Nat)
    (hr : r = if t.size < k + 1 then (0, 0, 10) else if B = true then (0, 0, 11) else (n, p + k + 1, 0)) :
    Calls Try.prog 33 #[.string s, .int .i64 (p : Int)] w fun e w' => e = .returned (trip r) ∧ Below w.heap.size w w' := by
  have ht2 : (0 : Int) < (t.size : Int) := by omega
  have hp3 : (p : Int) ≤ (s.size : Int) := by omega
  have hd1 : decide (X ≤ 247) = false := by simp; omega
  have hX0 : 0 ≤ X := by omega
  have hX1 : X ≤ 255 := by omega
  have HN := Lib.hid hn
  have HR := Lib.hid hr
  have HC := Lib.hid (refNumber_any n (by omega))
  have HB := Lib.hid hB
  clear hn hr hn64 hB
  by_cases hsh : (t.size : Int) < (k : Int) + 1
  · have HR2 : Hid (r = (0, 0, 10)) := by have := HR.out; rw [if_pos (by omega)] at this; exact this
    clear HR
    go_enter Try.func33, Try.ntmps33
    go_wp2_with fail
    go_ret3
    exact ⟨by rw [HR2.out]; rfl, Below.refl _ _⟩
  · have HR2 : Hid (r = if B = true then (0, 0, 11) else (n, p + k + 1, 0)) := by have := HR.out; rw [if_neg (by omega)] at this; exact this
    have hks : (k : Int) + 1 ≤ (t.size : Int) := by omega
    clear HR
    go_enter Try.func33, Try.ntmps33
    go_wp2_with fail
    go_loop [8, 9] (fun m i => ∃ j : Nat, (j : Int) ≤ (k : Int) ∧ i = .int .i64 ((j : Int) + 1) ∧ m = .int .u64 ((Oct.un ((t.data.toList.drop 1).take j) : Nat) : Int)) (fun _ i => k + 1 - (intOf i).toNat)
    case atStart => exact ⟨0, by omega, rfl, rfl⟩
    case round =>
      obtain ⟨j, hj, rfl, rfl⟩ := hrel
      have hl : t.data.toList.length = t.size := by simp
      by_cases hlt : (j : Int) < (k : Int)
      · have hjt : j + 1 < t.size := by omega
        have hun := Oct.un_lt ((t.data.toList.drop 1).take j)
        have hlen : ((t.data.toList.drop 1).take j).length = j := by rw [List.length_take, List.length_drop, hl]; omega
        rw [hlen] at hun
        have hj7 : 256 ^ j ≤ 256 ^ 7 := Nat.pow_le_pow_right (by omega) (by omega)
        have hm : ((Oct.un ((t.data.toList.drop 1).take j) : Nat) : Int) ≤ 72057594037927935 := by simp only [Nat.reducePow] at hj7; omega
        obtain ⟨b, hb2⟩ : ∃ b, b = t[j + 1] := ⟨_, rfl⟩
        have hsn : (t.data.toList.drop 1).take (j + 1) = (t.data.toList.drop 1).take j ++ [b] := by
          rw [List.take_succ_eq_append_getElem (by rw [List.length_drop, hl]; omega)]
          congr 1
          rw [hb2, List.getElem_drop]
          simp only [Nat.add_comm 1 j]
          rfl
        have HU := Lib.hid (Oct.un_snoc ((t.data.toList.drop 1).take j) b)
        rw [← hsn] at HU
        have hy : ((t[j + 1].toNat : Nat) : Int) = ((b.toNat : Nat) : Int) := by rw [hb2]
        have hy0 : ((b.toNat : Nat) : Int) ≤ 255 := by have := b.toNat_lt; omega
        have hjt2 : (j : Int) + 1 < (t.size : Int) := by omega
        clear hj7 hun hlen hsn hb2
        generalize Oct.un ((t.data.toList.drop 1).take j) = m at *
        generalize b.toNat = y at *
        go_wp2_with fail
        go_round
        case rel => exact ⟨j + 1, by omega, by go_num, by rw [HU.out]; go_num⟩
        case measure => simp [intOf]; omega
      · obtain rfl : j = k := by omega
        rw [← HN.out]
        go_wp2_with fail
        have hj1 : (j : Int) + 1 ≤ (t.size : Int) := by omega
        refine wp_region_vals (vals := [.int .u64 (n : Int), .string (Oct.numB n), .string t, .int .i64 (j : Int), .int .i64 ((j : Int) + 1), .string (t.extract 0 (j + 1)), .bool B])
          (by kernel_rfl) (by kernel_rfl) (by kernel_rfl) rfl (by kernel_rfl) (steps_of ?hs) ?hd
        case hs =>
          refine ⟨?_, ?_, ?_, ?_, ?_, ?_, ?_, trivial⟩
          · refine stepOk_value rfl fun a w ht => ?_
            have e1 := ht.old' 8 (.int .u64 (n : Int)) (by kernel_rfl) rfl
            exact ⟨_, w, by go_simp, Below.refl _ _, rfl⟩
          · refine stepOk_call rfl fun a w ht => ?_
            have e1 : a.tmps[52]?.getD undef = .int .u64 (n : Int) := ht.dep' 0 52 (by kernel_rfl) rfl
            refine ⟨38, #[.int .u64 (n : Int)], by go_simp, (HC.out _).mono ?_⟩
            rintro e w' ⟨rfl, hb⟩
            exact ⟨_, rfl, hb, rfl⟩
          · refine stepOk_value rfl fun a w ht => ?_
            have e1 := ht.old' 0 (.string t) (by kernel_rfl) rfl
            exact ⟨_, w, by go_simp, Below.refl _ _, rfl⟩
          · refine stepOk_value rfl fun a w ht => ?_
            have e1 := ht.old' 7 (.int .i64 (j : Int)) (by kernel_rfl) rfl
            exact ⟨_, w, by go_simp, Below.refl _ _, rfl⟩
          · refine stepOk_value rfl fun a w ht => ?_
            have e1 : a.tmps[55]?.getD undef = .int .i64 (j : Int) := ht.dep' 3 55 (by kernel_rfl) rfl
            refine ⟨.int .i64 ((j : Int) + 1), w, ?_, Below.refl _ _, rfl⟩
            go_simp
            exact IntWalk.i64_in _ ⟨by omega, by omega⟩
          · refine stepOk_value rfl fun a w ht => ?_
            have e1 : a.tmps[54]?.getD undef = .string t := ht.dep' 2 54 (by kernel_rfl) rfl
            have e2 : a.tmps[56]?.getD undef = .int .i64 ((j : Int) + 1) := ht.dep' 4 56 (by kernel_rfl) rfl
            refine ⟨.string (t.extract 0 (j + 1)), w, ?_, Below.refl _ _, rfl⟩
            go_simp
            intro hneg
            exfalso
            omega
          · refine stepOk_value rfl fun a w ht => ?_
            have e1 : a.tmps[53]?.getD undef = .string (Oct.numB n) := ht.dep' 1 53 (by kernel_rfl) rfl
            have e2 : a.tmps[57]?.getD undef = .string (t.extract 0 (j + 1)) := ht.dep' 5 57 (by kernel_rfl) rfl
            have e3 := HB.out
            refine ⟨.bool B, w, ?_, Below.refl _ _, rfl⟩
            rw [← e3]
            clear e3
            go_simp
        case hd =>
          intro w2 hb2
          have hpj : (p : Int) + (j : Int) + 1 ≤ 9223372036854775807 := by omega
          cases B
          · have HR3 : Hid (r = (n, p + j + 1, 0)) := HR2.out
            clear HB HR2
            simp only [puts, List.map, go_sem, List.setIfInBounds_toArray, List.set_cons_succ, List.set_cons_zero]
            go_wp2_with fail
            go_ret3
            exact ⟨by rw [HR3.out]; rfl, hb2⟩
          · have HR3 : Hid (r = (0, 0, 11)) := HR2.out
            clear HB HR2
            simp only [puts, List.map, go_sem, List.setIfInBounds_toArray, List.set_cons_succ, List.set_cons_zero]
            go_wp2_with fail
            go_ret3
            exact ⟨by rw [HR3.out]; rfl, hb2⟩

theorem un_small (l : List UInt8) (h : l.length ≤ 8) : Oct.un l < 18446744073709551616 :=
  Nat.lt_of_lt_of_le (Oct.un_lt l) (Nat.le_trans (Nat.pow_le_pow_right (by decide) h) (by decide))
/-- The document's TakeNumber takes what the mathematics says. -/
theorem refTake_any (s : ByteArray) (p : Int) (w : World) (hs : s.size ≤ maxLen) :
    Calls Try.prog 33 #[.string s, .int .i64 p] w fun e w' => e = .returned (trip (Oct.tnB s p)) ∧ Below w.heap.size w w' := by
  have hl : s.data.toList.length = s.size := by simp
  unfold Oct.tnB Oct.tnI
  rw [hl]
  by_cases h : p < 0 ∨ (s.size : Int) < p
  · rw [if_pos h]; exact refTake_out s p w h
  · rw [if_neg h]
    obtain ⟨q, rfl⟩ := Int.eq_ofNat_of_zero_le (show 0 ≤ p by omega)
    rw [Int.toNat_natCast]
    by_cases h1 : q = s.size
    · subst h1
      rw [Oct.tn_end _ _ (by omega)]
      exact refTake_end s w
    · have hq : q < s.size := by omega
      have hb : s.data.toList[q]'(by rw [hl]; exact hq) = s[q] := rfl
      have hlt := s[q].toNat_lt
      have hs2 : (s.size : Int) ≤ 9223372036854775807 := by unfold maxLen at hs; omega
      have htl : (s.extract q s.size).data.toList = s.data.toList.drop q := by
        rw [ByteArray.data_extract, Array.toList_extract, List.extract_eq_take_drop]
        exact List.take_of_length_le (by rw [List.length_drop, hl]; omega)
      obtain ⟨t, ht⟩ : ∃ t, s.extract q s.size = t := ⟨_, rfl⟩
      have htl2 : t.data.toList = s.data.toList.drop q := by rw [← ht]; exact htl
      have hts : t.size = s.size - q := by
        have : t.data.toList.length = t.size := by simp
        rw [← this, htl2, List.length_drop, hl]
      have ht0 : 0 < t.size := by omega
      have hcons := Oct.drop_at s.data.toList q (by rw [hl]; exact hq)
      rw [hb] at hcons
      have hne : (t.toList == []) = false := by
        rw [beq_eq_false_iff_ne, ByteArray.toList_eq, htl2, hcons]; simp
      have hb0 : t[0] = s[q] := by
        have h0 : t.data.toList[0]'(by rw [htl2, hcons]; simp) = s[q] := by simp only [htl2, hcons, List.getElem_cons_zero]
        exact h0
      by_cases h2 : s[q].toNat < 248
      · rw [Oct.tn_small _ _ (by rw [hl]; exact hq) (by rw [hb]; exact h2), hb]
        exact refTake_small s t q w ht (by omega) hs2 ht0 hne _ (by rw [hb0]) (by omega)
      · obtain ⟨k, hk0⟩ : ∃ k, k + 247 = s[q].toNat := ⟨s[q].toNat - 247, Nat.sub_add_cancel (by omega)⟩
        have hk : k = s[q].toNat - 247 := by omega
        rw [Oct.tn_big _ _ k (by rw [hl]; exact hq) (by rw [hb]; exact h2) (by rw [hb]; exact hk), hl]
        have hd1 : t.data.toList.drop 1 = s.data.toList.drop (q + 1) := by rw [htl2, List.drop_drop]
        have hfull : (s.data.toList.drop (q + 1)).length = s.size - (q + 1) := by rw [List.length_drop, hl]
        refine refTake_big s t q k w ht (by omega) hs2 (by omega) ht0 hne (s[q].toNat : Int) (by rw [hb0]) (by omega) (by omega) (by omega) _ rfl ?_ _ rfl _ ?_
        · have := un_small ((t.data.toList.drop 1).take k) (by rw [List.length_take]; omega)
          omega
        · rw [hd1]
          by_cases h3 : s.size - (q + 1) < k
          · rw [if_pos h3, if_pos (show t.size < k + 1 by omega)]
          · rw [if_neg h3, if_neg (show ¬ t.size < k + 1 by omega)]
            have hlen : ((s.data.toList.drop (q + 1)).take k).length = s[q].toNat - 247 := by rw [List.length_take, hfull]; omega
            have hf := Oct.form_iff s[q] ((s.data.toList.drop (q + 1)).take k) h2 hlen
            have he : (t.extract 0 (k + 1)).data.toList = s[q] :: (s.data.toList.drop (q + 1)).take k := by
              rw [ByteArray.data_extract, Array.toList_extract, List.extract_eq_take_drop, htl2, hcons]
              simp
            rw [ByteArray.toList_eq, ByteArray.toList_eq, he, Oct.numB_list]
            by_cases h4 : Oct.un ((s.data.toList.drop (q + 1)).take k) < 248 ∨ Oct.wd (Oct.un ((s.data.toList.drop (q + 1)).take k)) ≠ k
            · have hne2 : ¬ (Oct.num (Oct.un ((s.data.toList.drop (q + 1)).take k)) = s[q] :: (s.data.toList.drop (q + 1)).take k) := by
                rw [hf, ← hk]; exact fun h => h h4
              rw [if_pos h4, if_pos (by simpa using hne2)]
            · have heq : Oct.num (Oct.un ((s.data.toList.drop (q + 1)).take k)) = s[q] :: (s.data.toList.drop (q + 1)).take k := by
                rw [hf, ← hk]; exact h4
              rw [if_neg h4, if_neg (by rw [heq]; simp)]
              simp only [Prod.mk.injEq, true_and, and_true]
              omega
end Go.Proofs.Ytbhadaiijcdlkaa
