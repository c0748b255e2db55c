/- The walk over the law OctetsBack. No condition but the form's own reach. -/
import Derived.Test.YtcnnfbmfhjphfaaOctLists
import Derived.Test.YtcnnfbmfhjphfaaOctListC
import Derived.Test.YtcnnfbmfhjphfaaOctBackM
import Derived.Test.YtcnnfbmfhjphfaaPair
namespace Go.Proofs.Ytcnnfbmfhjphfaa
open Go.RowKit

theorem count_le_wt (ss : List ByteArray) : ss.length ≤ wtO ss := by
  unfold wtO
  induction ss with
  | nil => simp
  | cons t r ih => simp only [List.length_cons, List.map_cons, List.sum_cons]; omega
theorem text_light (ss : List ByteArray) (h : wtO ss ≤ 100000) (k : Nat) (hk : k < ss.length) : (ss.getD k ByteArray.empty).size ≤ 100000 := by
  have h1 := wtO_le ss (k + 1)
  rw [wtO_take ss k hk] at h1
  omega

set_option maxRecDepth 100000 in
set_option maxHeartbeats 1000000 in
theorem octetsBack_any (n : Nat) (ao : Option Addr) (cap : Nat) (ss : List ByteArray) (x y : ByteArray) (w : World) (hn64 : n < 18446744073709551616) (hf : StrsFit ss cap) (hc : StrsAt w ao ss) (hx : x.size ≤ 140737488351232) (hy : y.size ≤ 140737488351232) :
    Calls Try.prog 13 #[.int .u64 n, .slice ao ss.length cap, .agg #[.string x, .string y]] w fun e w' => e = .returned (.bool true) ∧ Below w.heap.size w w' := by
  have hm : (ss.length : Int) ≤ 9223372036854775807 := by have h1 := hf.1; have h2 := hf.2.1; unfold maxLen at h2; omega
  obtain ⟨L, hL⟩ : ∃ L, L = ss.length := ⟨_, rfl⟩
  have HL := Lib.hid hL
  have HC0 := Lib.hid hc
  have HF := Lib.hid hf
  have HX := Lib.hid hx
  have HY := Lib.hid hy
  have C1 := Lib.hid (number_any n hn64)
  have HN64 : Hid (OkU n) := hn64
  rw [← hL] at hm ⊢
  clear hL hc hf hx hy hn64
  go_enter Try.func13, Try.ntmps13
  go_wp2_with fail
  obtain ⟨W1, hW1⟩ : ∃ W1, W1 = w.alloc (.cells #[.string x, .string y] 56) := ⟨_, rfl⟩
  have hX1 : W1.cell? ⟨w.heap.size, 0, none⟩ = some (.string x) := by rw [hW1, World.cell?_alloc_at _ _ _ _ rfl]; rfl
  have hY1 : W1.cell? ⟨w.heap.size, 1, none⟩ = some (.string y) := by rw [hW1, World.cell?_alloc_at _ _ _ _ rfl]; rfl
  have hbW : Below w.heap.size w W1 := by rw [hW1]; exact (Below.refl _ _).alloc (Nat.le_refl _) _
  have hszW : W1.heap.size = w.heap.size + 1 := by rw [hW1]; simp
  rw [← hW1]
  have HC := Lib.hid (HC0.out.below hbW)
  have HXY : Hid (∀ wr, Below W1.heap.size W1 wr → wr.cell? ⟨w.heap.size, 0, none⟩ = some (.string x) ∧ wr.cell? ⟨w.heap.size, 1, none⟩ = some (.string y)) := fun wr hb =>
    ⟨(hb.cell (p := ⟨w.heap.size, 0, none⟩) (by simp [hszW])).trans hX1, (hb.cell (p := ⟨w.heap.size, 1, none⟩) (by simp [hszW])).trans hY1⟩
  have HBW := Lib.hid hbW
  have HSZ := Lib.hid hszW
  clear hW1 HC0 hbW hszW hX1 hY1
  go_loop [7, 8] (fun r i => ∃ k : Nat, (k : Int) ≤ (L : Int) ∧ i = .int .i64 (k : Int) ∧ r = .int .i64 ((wtO (ss.take k) : Nat) : Int) ∧ ((wtO (ss.take k) : Nat) : Int) ≤ 100000) (fun _ i => L - (intOf i).toNat)
  case atStart => exact ⟨0, by omega, rfl, rfl, by simp [wtO]⟩
  case round =>
    obtain ⟨k, hk, rfl, rfl, hwt⟩ := hrel
    by_cases hlt : (k : Int) < (L : Int)
    · have hkl : k < ss.length := by rw [← HL.out]; omega
      obtain ⟨b, off, rfl, hbl, hcell⟩ := HC.out k hkl
      have H := Lib.hid (wtO_take ss k hkl)
      have hsz := getD_fit HF.out k
      generalize ss.getD k ByteArray.empty = t at *
      unfold maxLen at hsz
      have hsz2 : (t.size : Int) ≤ 9223372036854775807 := by omega
      clear hsz hkl
      generalize wtO (ss.take k) = m at *
      go_wp2_with (go_at_call 23; refine (awake01_any _).mono ?_; rintro e w3 ⟨rfl, hb3⟩)
      case roundEnd =>
        have h : (m : Int) + (min (t.size : Int) 100000 + 9) ≤ 100000 := by assumption
        go_round
        case rel => exact ⟨k + 1, by omega, by go_num, by rw [H.out]; refine congrArg _ ?_; omega, by rw [H.out]; omega⟩
        case measure => simp [intOf]; omega
      all_goals
        go_ret
        exact ⟨rfl, HBW.out.trans (hb3.mono HBW.out.size)⟩
    · obtain rfl : k = L := by omega
      have e1 : ss.take k = ss := List.take_of_length_le (by rw [HL.out]; omega)
      rw [e1] at hwt
      have hwt2 : wtO ss ≤ 100000 := by omega
      have HWT := Lib.hid hwt2
      have hlb := listB_light ss hwt2
      have hcount : ss.length ≤ 100000 := Nat.le_trans (count_le_wt ss) hwt2
      have hx := HX.out
      have hy := HY.out
      have hn9 := Oct.numB_le n
      have hfit : ∀ t ∈ ss, t.size < 18446744073709551616 := fun t ht => by have := HF.out.2.2 t ht; unfold maxLen at this; omega
      have C2 : Hid (∀ w, Calls Try.prog 24 #[.string (x ++ Oct.numB n ++ y), .int .i64 (x.size : Int)] w fun e w' =>
          e = .returned (.tuple #[.int .u64 n, .int .i64 ((x.size : Int) + ((Oct.numB n).size : Int)), .int .i64 0]) ∧ Below w.heap.size w w') := fun w => by
        have h := takeNumber_any (x ++ Oct.numB n ++ y) (x.size : Int) w (by simp only [ByteArray.size_append]; unfold maxLen; omega)
        rw [Oct.tnB_laid x y n HN64.out] at h
        simpa [trip] using h
      have C3 : Hid (∀ w, StrsAt w ao ss → Calls Try.prog 32 #[.slice ao k cap] w fun e w' => e = .returned (.string (Oct.listB ss)) ∧ Below w.heap.size w w') := fun w hc => by
        rw [HL.out]; exact list_any ao cap ss w HF.out hc (by omega)
      have C4 : Hid (∀ w, Calls Try.prog 30 #[.string (x ++ Oct.listB ss ++ y), .int .i64 (x.size : Int)] w fun e w' =>
          ∃ ao1 cap1, e = .returned (.tuple #[.slice ao1 k cap1, .int .i64 ((x.size : Int) + ((Oct.listB ss).size : Int)), .int .i64 0]) ∧ StrsAt w' ao1 ss ∧ StrsFit ss cap1 ∧ Below w.heap.size w w') := fun w => by
        have e2 : x ++ Oct.listB ss ++ y = x ++ Oct.numB ss.length ++ (Oct.lay ss ++ y) := by rw [Oct.listB_lay]; simp only [ByteArray.append_assoc]
        have h := takeList_few (x ++ Oct.listB ss ++ y) (x.size : Int) w (by simp only [ByteArray.size_append]; unfold maxLen; omega)
          (by rw [e2, Oct.tnB_laid x _ ss.length (by omega)]; show ss.length ≤ _; omega)
        rw [Oct.tlB_laid x y ss (by omega) hfit] at h
        refine h.mono ?_
        rintro e w' ⟨ao1, cap1, rfl, h1, h2, h3⟩
        exact ⟨ao1, cap1, by rw [HL.out]; simp, h1, h2, h3⟩
      have C5 : Hid (∀ w ao1 cap1, StrsFit ss cap1 → StrsAt w ao1 ss → StrsAt w ao ss → Calls Try.prog 34 #[.slice ao1 k cap1, .slice ao k cap] w fun e w' => e = .returned (.bool true) ∧ Below w.heap.size w w') := fun w ao1 cap1 h1 h2 h3 => by
        rw [HL.out]; exact same_yes ao1 ao cap1 cap ss w h1 h2 h3
      have ha : ((Oct.numB n).size : Int) ≤ 9 := by omega
      have hb : ((Oct.listB ss).size : Int) ≤ 100009 := by omega
      have hx2 : (x.size : Int) ≤ 140737488351232 := by omega
      have hy2 : (y.size : Int) ≤ 140737488351232 := by omega
      generalize Oct.listB ss = b at *
      generalize Oct.numB n = a at *
      obtain ⟨hx0, hy0⟩ := HXY.out W1 (Below.refl _ _)
      clear e1 hwt hwt2 hlb hcount hx hy hn9 hfit
      go_wp2_with fail
      refine (C1.out _).mono ?_
      rintro e w1 ⟨rfl, hb1⟩
      obtain ⟨hx1, hy1⟩ := HXY.out w1 hb1
      clear hx0 hy0
      go_wp2_with fail
      refine (C2.out _).mono ?_
      rintro e w2 ⟨rfl, hb2⟩
      have k2 := hb1.trans (hb2.mono hb1.size)
      clear hx1 hy1
      go_wp2_with fail
      refine (C3.out _ (HC.out.below k2)).mono ?_
      rintro e w3 ⟨rfl, hb3⟩
      have k3 := k2.trans (hb3.mono k2.size)
      obtain ⟨hx3, hy3⟩ := HXY.out w3 k3
      go_wp2_with fail
      refine (C4.out _).mono ?_
      rintro e w4 ⟨ao1, cap1, rfl, hA1, hF1, hb4⟩
      have k4 := k3.trans (hb4.mono k3.size)
      clear hx3 hy3
      go_wp2_with fail
      refine (C5.out _ _ _ hF1 hA1 (HC.out.below k4)).mono ?_
      rintro e w5 ⟨rfl, hb5⟩
      have k5 := k4.trans (hb5.mono k4.size)
      clear hb1 hb2 hb3 hb4 hb5 k2 k3 k4 hA1 hF1
      go_wp2_with fail
      go_loopw [18] (fun i wr => ∃ j : Nat, (j : Int) ≤ (k : Int) ∧ i = .int .i64 (j : Int) ∧ Below W1.heap.size W1 wr) (fun i _ => k - (intOf i).toNat)
      case atStart => exact ⟨0, by omega, rfl, k5⟩
      case round =>
        clear k5
        obtain ⟨j, hj, rfl, kr⟩ := hrel
        by_cases hlt2 : (j : Int) < (k : Int)
        · have hkl : j < ss.length := by rw [← HL.out]; omega
          obtain ⟨b1, off1, rfl, hbl, hcell0⟩ := HC.out j hkl
          have hcell := (kr.cell (p := ⟨b1, off1 + j, none⟩) hbl).trans hcell0
          have hlight := text_light ss HWT.out j hkl
          generalize ss.getD j ByteArray.empty = t at *
          have hx := HX.out
          have hy := HY.out
          have hc9 : (Oct.textB t).size ≤ 9 + t.size := by unfold Oct.textB; rw [ByteArray.size_append]; have := Oct.numB_le t.size; omega
          have D1 := Lib.hid (text_any t (by omega))
          have D2 : Hid (∀ w, Calls Try.prog 26 #[.string (x ++ Oct.textB t ++ y), .int .i64 (x.size : Int)] w fun e w' =>
              e = .returned (.tuple #[.string t, .int .i64 ((x.size : Int) + ((Oct.textB t).size : Int)), .int .i64 0]) ∧ Below w.heap.size w w') := fun w => by
            have h := takeText_any (x ++ Oct.textB t ++ y) (x.size : Int) w (by simp only [ByteArray.size_append]; unfold maxLen; omega)
            rw [Oct.ttB_laid x t y (by omega)] at h
            simpa [tripT] using h
          have hcs : ((Oct.textB t).size : Int) ≤ 100009 := by omega
          generalize Oct.textB t = c at *
          clear hx hy hc9 hlight hcell0 hkl
          go_wp2_with fail
          refine (D1.out _).mono ?_
          rintro e w6 ⟨rfl, hb6⟩
          have k6 := kr.trans (hb6.mono kr.size)
          obtain ⟨hx6, hy6⟩ := HXY.out w6 k6
          have hcell6 := (hb6.cell (p := ⟨b1, off1 + j, none⟩) (by have := kr.size; simp; omega)).trans hcell
          clear hcell
          go_wp2_with fail
          refine (D2.out _).mono ?_
          rintro e w7 ⟨rfl, hb7⟩
          have k7 := k6.trans (hb7.mono k6.size)
          have hcell7 := (hb7.cell (p := ⟨b1, off1 + j, none⟩) (by have := k6.size; simp; omega)).trans hcell6
          clear hcell6 hx6 hy6 hb6 hb7 kr
          go_wp2_with fail
          go_roundw
          case rel => exact ⟨j + 1, by omega, by go_num, k7⟩
          case measure => simp [intOf]; omega
        · go_wp2_with fail
          refine (awake01_any _).mono ?_
          rintro e w8 ⟨rfl, hb8⟩
          go_wp2_with fail
          go_ret
          have k8 := kr.trans (hb8.mono kr.size)
          exact ⟨rfl, HBW.out.trans (k8.mono (by have := HSZ.out; omega))⟩
theorem octetsBack_walk (n : Nat) (ao : Option Addr) (cap : Nat) (ss : List ByteArray) (x y : ByteArray) (w : World) (hn64 : n < 18446744073709551616) (hf : StrsFit ss cap) (hc : StrsAt w ao ss) (_ : cap * 16 ≤ 140737488351232) (hx : x.size ≤ 140737488351232) (hy : y.size ≤ 140737488351232) :
    Calls Try.prog 13 #[.int .u64 n, .slice ao ss.length cap, .agg #[.string x, .string y]] w fun e w' => e = .returned (.bool true) ∧ Below w.heap.size w w' :=
  octetsBack_any n ao cap ss x y w hn64 hf hc hx hy
end Go.Proofs.Ytcnnfbmfhjphfaa
