/- The walk over the document's turn. -/
import Derived.Test.YtbajgpbekanodaaDigRot
import Derived.Test.YtbajgpbekanodaaDigSum
import Derived.Test.YtbajgpbekanodaaRegion
namespace Go.Proofs.Ytbajgpbekanodaa
open Go.RowKit

theorem turn_or (x n k : Nat) (hx : x < 4294967296) (hn : n + k = 32) (h1 : 1 ≤ k) : bits BinOp.or IntKind.u32 ((x : Int) / 2 ^ k) ((x : Int) * 2 ^ n % 4294967296) = ((Sha.rotr x k : Nat) : Int) := by
  have h2 : x / 2 ^ k < 4294967296 := Nat.lt_of_le_of_lt (Nat.div_le_self _ _) hx
  have h3 := u32_or_nat (x / 2 ^ k) (x * 2 ^ n % 4294967296) h2 (Nat.mod_lt _ (by omega))
  have e1 : ((x * 2 ^ n % 4294967296 : Nat) : Int) = (x : Int) * 2 ^ n % 4294967296 := by simp
  have e2 : ((x / 2 ^ k : Nat) : Int) = (x : Int) / 2 ^ k := by simp
  rw [← e1, ← e2, h3]
  unfold Sha.rotr
  rw [show 32 - k = n by omega]

set_option maxRecDepth 100000 in
set_option maxHeartbeats 400000 in
theorem refTurn_any (x k n : Nat) (hx : x < 4294967296) (hn : n + k = 32) (h1 : 1 ≤ k) (h2 : k ≤ 31) (w : World) :
    Calls Try.prog 84 #[.int .u32 (x : Int), .int .u64 (k : Int)] w fun e w' => e = .returned (.int .u32 (Sha.rotr x k : Nat)) ∧ w = w' := by
  have H := Lib.hid (turn_or x n k hx hn h1)
  have HK : Hid (32 - k = n) := by show _ = _; omega
  have hx2 : (x : Int) < 4294967296 := by omega
  have g1 : 1 ≤ (k : Int) := by omega
  have g2 : (k : Int) ≤ 31 := by omega
  have q1 : IntKind.u64.wrap (32 - (k : Int)) = 32 - (k : Int) := IntWalk.u64_in _ ⟨by omega, by omega⟩
  have q2 : (32 - (k : Int)).toNat = n := by omega
  clear hn hx
  go_enter Try.func84, Try.ntmps84
  go_wp2_with fail
  go_ret
  refine ⟨?_, rfl⟩
  rw [← H.out]
  rfl
end Go.Proofs.Ytbajgpbekanodaa
namespace Go.Proofs.Ytbajgpbekanodaa
open Go.RowKit

theorem turnQ (x k n : Nat) (c : Int) (hc : (k : Int) = c) (hx : x < 4294967296) (hn : n + k = 32) (h1 : 1 ≤ k) (h2 : k ≤ 31) (w : World) :
    Calls Try.prog 84 #[.int .u32 (x : Int), .int .u64 c] w fun e w' => e = .returned (.int .u32 ((Sha.rotr x k : Nat) : Int)) ∧ Below w.heap.size w w' := by
  subst hc
  exact (refTurn_any x k n hx hn h1 h2 w).mono fun _ _ h => ⟨h.1, by rw [← h.2]; exact Below.refl _ _⟩
theorem word_add (b0 b1 b2 b3 : Nat) (h0 : b0 < 256) (h1 : b1 < 256) (h2 : b2 < 256) (h3 : b3 < 256) :
    IntKind.u32.wrap (IntKind.u32.wrap (IntKind.u32.wrap (IntKind.u32.wrap (IntKind.u32.wrap (IntKind.u32.wrap (IntKind.u32.wrap (b0 : Int) * 256) + IntKind.u32.wrap (b1 : Int)) * 256) + IntKind.u32.wrap (b2 : Int)) * 256) + IntKind.u32.wrap (b3 : Int)) =
      ((((b0 * 256 + b1) * 256 + b2) * 256 + b3 : Nat) : Int) := by
  simp only [IntKind.wrap_u32']
  omega
theorem word_atL (l : List UInt8) (hl : l.length = 64) (k : Nat) (hk : k < 16) : (Sha.words l).getD k 0 =
    (((l.getD (4 * k) 0).toNat * 256 + (l.getD (4 * k + 1) 0).toNat) * 256 + (l.getD (4 * k + 2) 0).toNat) * 256 + (l.getD (4 * k + 3) 0).toNat := by
  have e : (Sha.words l).getD k 0 = Oct.un ((l.drop (4 * k)).take 4) := by unfold Sha.words; simp [List.getD, hk]
  rw [e, List.drop_eq_getElem_cons (by omega), List.drop_eq_getElem_cons (by omega), List.drop_eq_getElem_cons (by omega), List.drop_eq_getElem_cons (by omega)]
  simp only [List.take_succ_cons, List.take_zero]
  unfold Oct.un
  simp only [List.foldl_cons, List.foldl_nil, Nat.zero_mul, Nat.zero_add]
  simp [List.getD, show 4 * k < l.length by omega, show 4 * k + 1 < l.length by omega, show 4 * k + 2 < l.length by omega, show 4 * k + 3 < l.length by omega]

set_option maxRecDepth 100000 in
set_option maxHeartbeats 8000000 in
theorem block_any (v : Sha.St) (hv : v.ok) (l : List UInt8) (hl : l.length = 64) (g off cap : Nat) (w : World) (hg : g < w.heap.size) (hcells : ∀ j, j < 64 → w.cell? ⟨g, off + j, none⟩ = some (byteV (l.getD j 0))) :
    Calls Try.prog 59 #[.agg (cel v.list), .slice (some ⟨g, off, none⟩) 64 cap] w fun e w' => e = .returned (.agg (cel (Sha.mix v l).list)) ∧ Below w.heap.size w w' := by
  have HS := Lib.hid hl
  have HY := Lib.hid hcells
  have HGW := Lib.hid hg
  obtain ⟨W, hW⟩ : ∃ W, W = Sha.words l := ⟨_, rfl⟩
  have HW := Lib.hid hW
  have HWL : Hid (W.length = 16) := by show _ = _; rw [hW, Sha.words_length]
  have HV := Lib.hid hv
  obtain ⟨mx, hmx⟩ : ∃ mx, mx = Sha.mix v l := ⟨_, rfl⟩
  have HMX := Lib.hid hmx
  rw [← hmx]
  clear hmx
  clear hl hW hv hcells hg
  go_enter Try.func59, Try.ntmps59
  go_upto_region 2 with fail
  refine name_world (fun w3 => Words w3 w.heap.size v.list ∧ Words w3 (w.heap.size + 1) (List.replicate 8 0) ∧ Words w3 (w.heap.size + 1 + 1) (arr (W.take 0)) ∧ Below w.heap.size w w3) ⟨?_, ?_, ?_, ?_⟩ ?_
  · exact ((words_at _ rfl _ _ _ rfl).alloc _).alloc _
  · exact (words_at _ (by simp) _ _ _ (by kernel_rfl)).alloc _
  · exact words_at _ (by simp) _ _ _ (by kernel_rfl)
  · exact (((Below.refl _ w).alloc (Nat.le_refl _) _).alloc (by simp) _).alloc (by simp; omega) _
  rintro w3 ⟨hA3, hB3, hC3, hb3⟩
  have HA := Lib.hid hA3
  have HB := Lib.hid hB3
  have HC := Lib.hid hC3
  have Hb := Lib.hid hb3
  clear hA3 hB3 hC3 hb3
  obtain ⟨B, hB⟩ : ∃ B, w.heap.size = B := ⟨_, rfl⟩
  rw [hB] at HA HB HC Hb HGW ⊢
  have HBW := Lib.hid hB
  clear hB
  go_wp2_with fail
  refine (table_any _).mono ?_
  rintro e w7 ⟨rfl, hb7⟩
  have HO7 : Hid ((Words w7 B v.list ∧ Words w7 (B + 1) (List.replicate 8 0) ∧ Words w7 (B + 1 + 1) (arr (W.take 0))) ∧ Below B w w7) := ⟨⟨HA.out.below hb7, HB.out.below hb7, HC.out.below hb7⟩, Hb.out.trans (hb7.mono (Nat.le_of_lt HA.out.lt))⟩
  have HLT7 : Hid (B + 1 + 1 < w7.heap.size) := HO7.out.1.2.2.lt
  clear hb7 HA HB HC Hb
  go_upto_region 3 with (refine wpList_store_row rfl 123 (.tmp 6) (.tmp 22) rfl w7.heap.size kArr rfl rfl _ _ (heap_alloc_new _ _) (by kernel_rfl) (by kernel_rfl) (by kernel_rfl) ?_)
  refine name_world (fun w8 => (Words w8 (B + 1 + 1) (arr (W.take 0)) ∧ Words w8 B v.list ∧ Words w8 (B + 1) (List.replicate 8 0) ∧ Words w8 w7.heap.size Sha.K) ∧ Below B w w8) ?_ ?_
  · have hb := below_setRow w7.heap.size (w7.alloc (.cells (Sha.K.map fun _ => Value.int .u32 0).toArray 123)) w7.heap.size kArr (Nat.le_refl _)
    have hb2 := ((Below.refl w7.heap.size w7).alloc (Nat.le_refl _) (.cells (Sha.K.map fun _ => Value.int .u32 0).toArray 123)).trans hb
    exact ⟨⟨HO7.out.1.2.2.below hb2, HO7.out.1.1.below hb2, HO7.out.1.2.1.below hb2, ⟨_, setRow_heap _ _ _ kArr _ _ (heap_alloc_new _ _)⟩⟩, HO7.out.2.trans (hb2.mono (Nat.le_of_lt HO7.out.1.1.lt))⟩
  rintro w8 ⟨⟨hC8, hA8, hB8, hK8⟩, hb8⟩
  have HC := Lib.hid hC8
  have HO : Hid ((Words w8 B v.list ∧ Words w8 (B + 1) (List.replicate 8 0) ∧ Words w8 w7.heap.size Sha.K) ∧ Below B w w8) := ⟨⟨hA8, hB8, hK8⟩, hb8⟩
  clear HO7 hC8 hA8 hB8 hK8 hb8
  generalize w7.heap.size = C at *
  go_wp2_with fail
  go_loopw [7] (fun i wr => ∃ k : Nat, (k : Int) ≤ 16 ∧ i = .int .i64 (k : Int) ∧ Hid (Words wr (B + 1 + 1) (arr (W.take k))) ∧ Hid ((Words wr B v.list ∧ Words wr (B + 1) (List.replicate 8 0) ∧ Words wr C Sha.K) ∧ Below B w wr)) (fun i _ => 16 - (intOf i).toNat)
  case atStart => exact ⟨0, by omega, rfl, HC, HO⟩
  case round =>
    clear HC HO
    obtain ⟨k, hk, rfl, HC, HO⟩ := hrel
    by_cases hlt : (k : Int) < 16
--R1{
    · have q0 : IntKind.i64.wrap (4 * (k : Int)) = 4 * (k : Int) := IntWalk.i64_in _ ⟨by omega, by omega⟩
      have q1 : IntKind.i64.wrap (4 * (k : Int) + 1) = 4 * (k : Int) + 1 := IntWalk.i64_in _ ⟨by omega, by omega⟩
      have q2 : IntKind.i64.wrap (4 * (k : Int) + 2) = 4 * (k : Int) + 2 := IntWalk.i64_in _ ⟨by omega, by omega⟩
      have q3 : IntKind.i64.wrap (4 * (k : Int) + 3) = 4 * (k : Int) + 3 := IntWalk.i64_in _ ⟨by omega, by omega⟩
      have z0 : 0 ≤ 4 * (k : Int) := by omega
      have z1 : 0 ≤ 4 * (k : Int) + 1 := by omega
      have z2 : 0 ≤ 4 * (k : Int) + 2 := by omega
      have z3 : 0 ≤ 4 * (k : Int) + 3 := by omega
      have t0 : (4 * (k : Int)).toNat = 4 * k := by omega
      have t1 : (4 * (k : Int) + 1).toNat = 4 * k + 1 := by omega
      have t2 : (4 * (k : Int) + 2).toNat = 4 * k + 2 := by omega
      have t3 : (4 * (k : Int) + 3).toNat = 4 * k + 3 := by omega
      have y0 : 4 * (k : Int) < 64 := by omega
      have y1 : 4 * (k : Int) + 1 < 64 := by omega
      have y2 : 4 * (k : Int) + 2 < 64 := by omega
      have y3 : 4 * (k : Int) + 3 < 64 := by omega
      have y4 : (k : Int) < 64 := by omega
      have hx := word_atL l HS.out k (by omega)
      have l0 := (HO.out.2.cell (p := ⟨g, off + 4 * k, none⟩) HGW.out).trans (HY.out (4 * k) (by omega))
      have l1 := (HO.out.2.cell (p := ⟨g, off + (4 * k + 1), none⟩) HGW.out).trans (HY.out (4 * k + 1) (by omega))
      have l2 := (HO.out.2.cell (p := ⟨g, off + (4 * k + 2), none⟩) HGW.out).trans (HY.out (4 * k + 2) (by omega))
      have l3 := (HO.out.2.cell (p := ⟨g, off + (4 * k + 3), none⟩) HGW.out).trans (HY.out (4 * k + 3) (by omega))
      unfold byteV at l0 l1 l2 l3
      have hor := word_add (l.getD (4 * k) 0).toNat (l.getD (4 * k + 1) 0).toNat (l.getD (4 * k + 2) 0).toNat (l.getD (4 * k + 3) 0).toNat (UInt8.toNat_lt _) (UInt8.toNat_lt _) (UInt8.toNat_lt _) (UInt8.toNat_lt _)
      generalize (l.getD (4 * k) 0).toNat = b0 at *
      generalize (l.getD (4 * k + 1) 0).toNat = b1 at *
      generalize (l.getD (4 * k + 2) 0).toNat = b2 at *
      generalize (l.getD (4 * k + 3) 0).toNat = b3 at *
      have hW2 := HW.out
      rw [← hW2] at hx
      rw [← hx] at hor
      have HX : Hid (∀ w2 : World, Words w2 (B + 1 + 1) (arr (W.take k)) → Words (w2.setCell ⟨B + 1 + 1, k, none⟩ (.int .u32 ((W.getD k 0 : Nat) : Int))) (B + 1 + 1) (arr (W.take (k + 1)))) := fun w2 h => by
        have h1 := h.set k (W.getD k 0)
        have hl := HWL.out
        have h2 := arr_set (W.take k) (W.getD k 0) (by rw [List.length_take]; omega)
        rw [List.length_take, show min k W.length = k by omega] at h2
        rw [h2] at h1
        rw [List.take_succ_eq_append_getElem (by omega)]
        have e : W.getD k 0 = W[k]'(by omega) := by simp [List.getD, show k < W.length by omega]
        rw [e] at h1
        rw [e]
        exact h1
      have hcl := HC.out.cell k (by have := HWL.out; unfold arr; simp; omega)
      have hfr := HC.out.frozen k
      generalize (arr (W.take k)).getD k 0 = old at *
      generalize W.getD k 0 = x at *
      clear hx hW2
      go_wp2_with fail
      go_still_tail 35, (by kernel_rfl)
      refine name_list (fun w2 => (w2.cell? ⟨B + 1 + 1, k, none⟩ = some (.int .u32 (old : Int)) ∧ w2.frozen? ⟨B + 1 + 1, k, none⟩ = false) ∧ Hid (Words w2 (B + 1 + 1) (arr (W.take k)) ∧ (Words w2 B v.list ∧ Words w2 (B + 1) (List.replicate 8 0) ∧ Words w2 C Sha.K) ∧ Below B w w2)) ⟨⟨hcl, hfr⟩, HC.out, ⟨HO.out.1.1, HO.out.1.2.1, HO.out.1.2.2⟩, HO.out.2.drew⟩ ?_
      rintro w2 ⟨⟨hc2, hf2⟩, HO2⟩
      have HC3 := Lib.hid (HX.out w2 HO2.out.1)
      have hlt7 := HLT7.out
      have HO3 : Hid ((Words (w2.setCell ⟨B + 1 + 1, k, none⟩ (.int .u32 (x : Int))) B v.list ∧ Words (w2.setCell ⟨B + 1 + 1, k, none⟩ (.int .u32 (x : Int))) (B + 1) (List.replicate 8 0) ∧ Words (w2.setCell ⟨B + 1 + 1, k, none⟩ (.int .u32 (x : Int))) C Sha.K) ∧ Below B w (w2.setCell ⟨B + 1 + 1, k, none⟩ (.int .u32 (x : Int)))) :=
        ⟨⟨HO2.out.2.1.1.other (by omega) _ _, HO2.out.2.1.2.1.other (by omega) _ _, HO2.out.2.1.2.2.other (by omega) _ _⟩, HO2.out.2.2.setCell (p := ⟨B + 1 + 1, k, none⟩) (by simp; omega) _⟩
      clear HX HO HC hcl hfr HO2 hor q0 q1 q2 q3 z0 z1 z2 z3 t0 t1 t2 t3 y0 y1 y2 y3 y4 l0 l1 l2 l3 hlt7
      go_wp2_with fail
      go_roundw
      case rel => exact ⟨k + 1, by omega, by go_num, HC3, HO3⟩
      case measure => simp [intOf]; omega
--}R1
    · obtain rfl : k = 16 := by omega
      have e16 : W.take 16 = W := by rw [← HWL.out]; exact List.take_length
      rw [e16] at HC
      have HWB : Hid (∀ i, W.getD i 0 < 4294967296) := by show ∀ i, _; rw [HW.out]; exact Sha.word_lt _
      clear e16
      go_wp2_with fail
      go_loopw [8, 9, 10] (fun i _ _ wr => ∃ n : Nat, 16 ≤ (n : Int) ∧ (n : Int) ≤ 64 ∧ i = .int .i64 (n : Int) ∧ Hid (Words wr (B + 1 + 1) (arr (Sha.more (n - 16) W))) ∧ Hid ((Words wr B v.list ∧ Words wr (B + 1) (List.replicate 8 0) ∧ Words wr C Sha.K) ∧ Below B w wr)) (fun i _ _ _ => 64 - (intOf i).toNat)
      case atStart => exact ⟨16, by omega, by omega, rfl, HC, HO⟩
      case round =>
        clear HC HO
        obtain ⟨n, h16, h64, rfl, HC, HO⟩ := hrel
        by_cases hlt : (n : Int) < 64
--R2{
        · obtain ⟨L, hL⟩ : ∃ L, Sha.more (n - 16) W = L := ⟨_, rfl⟩
          have hLn : L.length = n := by rw [← hL, Sha.more_length, HWL.out]; omega
          have HLB : ∀ i, L.getD i 0 < 4294967296 := by rw [← hL]; exact Sha.more_lt _ _ HWB.out
          have HNX : Hid (Sha.more (n + 1 - 16) W = L ++ [Sha.wNext L]) := by
            show _ = _
            rw [show n + 1 - 16 = (n - 16) + 1 by omega, Sha.more_succ, hL]
          rw [hL] at HC
          have hc15 := HC.out.cell (n - 15) (by rw [arr_length _ (by omega)]; omega)
          have hc2 := HC.out.cell (n - 2) (by rw [arr_length _ (by omega)]; omega)
          have hc16 := HC.out.cell (n - 16) (by rw [arr_length _ (by omega)]; omega)
          have hc7 := HC.out.cell (n - 7) (by rw [arr_length _ (by omega)]; omega)
          have hcn := HC.out.cell n (by rw [arr_length _ (by omega)]; omega)
          have hfn := HC.out.frozen n
          rw [arr_get _ _ (by omega)] at hc15 hc2 hc16 hc7
          have hwn : Sha.wNext L = (L.getD (n - 16) 0 + Sha.sig0 (L.getD (n - 15) 0) + L.getD (n - 7) 0 + Sha.sig1 (L.getD (n - 2) 0)) % 4294967296 := by unfold Sha.wNext; rw [hLn]
          have HX : Hid (∀ w2 : World, Words w2 (B + 1 + 1) (arr L) → Words (w2.setCell ⟨B + 1 + 1, n, none⟩ (.int .u32 ((Sha.wNext L : Nat) : Int))) (B + 1 + 1) (arr (Sha.more (n + 1 - 16) W))) := fun w2 h => by
            have h1 := h.set n (Sha.wNext L)
            have h2 := arr_set L (Sha.wNext L) (by omega)
            rw [hLn] at h2
            rw [h2] at h1
            rw [HNX.out]
            exact h1
          have x15 := HLB (n - 15)
          have x2 := HLB (n - 2)
          generalize L.getD (n - 16) 0 = y16 at *
          generalize L.getD (n - 15) 0 = y15 at *
          generalize L.getD (n - 7) 0 = y7 at *
          generalize L.getD (n - 2) 0 = y2 at *
          have hsum := add4_wrap (Sha.sig1 y2) y7 (Sha.sig0 y15) y16
          rw [show Sha.sig1 y2 + y7 + Sha.sig0 y15 + y16 = y16 + Sha.sig0 y15 + y7 + Sha.sig1 y2 by omega, ← hwn] at hsum
          have hs0 := sig0_bits y15 x15
          have hs1 := sig1_bits y2 x2
          have C7 := Lib.hid (fun w => turnQ y15 7 25 7 rfl x15 (by omega) (by omega) (by omega) w)
          have C18 := Lib.hid (fun w => turnQ y15 18 14 18 rfl x15 (by omega) (by omega) (by omega) w)
          have C17 := Lib.hid (fun w => turnQ y2 17 15 17 rfl x2 (by omega) (by omega) (by omega) w)
          have C19 := Lib.hid (fun w => turnQ y2 19 13 19 rfl x2 (by omega) (by omega) (by omega) w)
          generalize (arr L).getD n 0 = old at *
          generalize Sha.wNext L = x at *
          generalize Sha.sig0 y15 = s0 at *
          generalize Sha.sig1 y2 = s1 at *
          have q15 : IntKind.i64.wrap ((n : Int) - 15) = (n : Int) - 15 := IntWalk.i64_in _ ⟨by omega, by omega⟩
          have q2 : IntKind.i64.wrap ((n : Int) - 2) = (n : Int) - 2 := IntWalk.i64_in _ ⟨by omega, by omega⟩
          have q16 : IntKind.i64.wrap ((n : Int) - 16) = (n : Int) - 16 := IntWalk.i64_in _ ⟨by omega, by omega⟩
          have q7 : IntKind.i64.wrap ((n : Int) - 7) = (n : Int) - 7 := IntWalk.i64_in _ ⟨by omega, by omega⟩
          have z15 : 0 ≤ (n : Int) - 15 := by omega
          have z2 : 0 ≤ (n : Int) - 2 := by omega
          have z16 : 0 ≤ (n : Int) - 16 := by omega
          have z7 : 0 ≤ (n : Int) - 7 := by omega
          have m7 : 7 ≤ (n : Int) := by omega
          have m15 : 15 ≤ (n : Int) := by omega
          have m2 : 2 ≤ (n : Int) := by omega
          have t15 : ((n : Int) - 15).toNat = n - 15 := by omega
          have t2 : ((n : Int) - 2).toNat = n - 2 := by omega
          have t16 : ((n : Int) - 16).toNat = n - 16 := by omega
          have t7 : ((n : Int) - 7).toNat = n - 7 := by omega
          have y15' : (n : Int) - 15 < 64 := by omega
          have y2' : (n : Int) - 2 < 64 := by omega
          have y16' : (n : Int) - 16 < 64 := by omega
          have y7' : (n : Int) - 7 < 64 := by omega
          clear hwn HLB hL hLn HNX
          go_wp2_with fail
          refine wp_region_puts2 (R := fun i w' v => v = [Value.int .i64 (n : Int), .int .i64 ((n : Int) - 15), .pointer (some ⟨B + 1 + 1, n - 15, none⟩), .int .u32 (y15 : Int), .int .u32 ((Sha.rotr y15 7 : Nat) : Int), .int .i64 (n : Int), .int .i64 ((n : Int) - 15), .pointer (some ⟨B + 1 + 1, n - 15, none⟩), .int .u32 (y15 : Int), .int .u32 ((Sha.rotr y15 18 : Nat) : Int), .int .u32 (bits BinOp.xor IntKind.u32 ((Sha.rotr y15 7 : Nat) : Int) ((Sha.rotr y15 18 : Nat) : Int)), .int .i64 (n : Int), .int .i64 ((n : Int) - 15), .pointer (some ⟨B + 1 + 1, n - 15, none⟩), .int .u32 (y15 : Int), .int .u32 ((y15 : Int) / 8), .int .u32 (s0 : Int), .int .u32 (s0 : Int)].getD i undef)
            (by kernel_rfl) (by kernel_rfl) (by kernel_rfl) ?hRR (by kernel_rfl) (steps_of ?hs) ?hd
          case hRR =>
            intro i w1 w2 v hb hv
            exact hv
          case hs =>
            refine ⟨?_, ?_, ?_, ?_, ?_, ?_, ?_, ?_, ?_, ?_, ?_, ?_, ?_, ?_, ?_, ?_, ?_, ?_, trivial⟩
            · refine stepOk_value rfl fun a w5 ht => ?_
              have e8 : a.tmps[8]?.getD undef = .int .i64 (n : Int) := ht.old' 8 (.int .i64 (n : Int)) (by kernel_rfl) rfl
              exact ⟨Value.int .i64 (n : Int), w5, by go_simp, Below.refl _ _, rfl⟩
            · refine stepOk_value rfl fun a w5 ht => ?_
              have e66 : a.tmps[66]?.getD undef = Value.int .i64 (n : Int) := ht.dep' 0 66 (by kernel_rfl) rfl
              exact ⟨.int .i64 ((n : Int) - 15), w5, by go_simp, Below.refl _ _, rfl⟩
            · refine stepOk_value rfl fun a w5 ht => ?_
              have e5 : a.tmps[5]?.getD undef = .pointer (some ⟨B + 1 + 1, 0, none⟩) := ht.old' 5 (.pointer (some ⟨B + 1 + 1, 0, none⟩)) (by kernel_rfl) rfl
              have e67 : a.tmps[67]?.getD undef = .int .i64 ((n : Int) - 15) := ht.dep' 1 67 (by kernel_rfl) rfl
              exact ⟨.pointer (some ⟨B + 1 + 1, n - 15, none⟩), w5, by go_simp, Below.refl _ _, rfl⟩
            · refine stepOk_value rfl fun a w5 ht => ?_
              have e68 : a.tmps[68]?.getD undef = .pointer (some ⟨B + 1 + 1, n - 15, none⟩) := ht.dep' 2 68 (by kernel_rfl) rfl
              have hc := (ht.below.cell (p := ⟨B + 1 + 1, n - 15, none⟩) (World.block_lt_of_cell? _ _ hc15)).trans hc15
              exact ⟨.int .u32 (y15 : Int), w5, by go_simp, Below.refl _ _, rfl⟩
            · refine stepOk_call rfl fun a w5 ht => ?_
              have e69 : a.tmps[69]?.getD undef = .int .u32 (y15 : Int) := ht.dep' 3 69 (by kernel_rfl) rfl
              refine ⟨84, #[.int .u32 (y15 : Int), .int .u64 7], by go_simp, (C7.out w5).mono ?_⟩
              rintro e w' ⟨rfl, hb⟩
              exact ⟨_, rfl, hb, rfl⟩
            · refine stepOk_value rfl fun a w5 ht => ?_
              have e8 : a.tmps[8]?.getD undef = .int .i64 (n : Int) := ht.old' 8 (.int .i64 (n : Int)) (by kernel_rfl) rfl
              exact ⟨.int .i64 (n : Int), w5, by go_simp, Below.refl _ _, rfl⟩
            · refine stepOk_value rfl fun a w5 ht => ?_
              have e71 : a.tmps[71]?.getD undef = .int .i64 (n : Int) := ht.dep' 5 71 (by kernel_rfl) rfl
              exact ⟨.int .i64 ((n : Int) - 15), w5, by go_simp, Below.refl _ _, rfl⟩
            · refine stepOk_value rfl fun a w5 ht => ?_
              have e5 : a.tmps[5]?.getD undef = .pointer (some ⟨B + 1 + 1, 0, none⟩) := ht.old' 5 (.pointer (some ⟨B + 1 + 1, 0, none⟩)) (by kernel_rfl) rfl
              have e72 : a.tmps[72]?.getD undef = .int .i64 ((n : Int) - 15) := ht.dep' 6 72 (by kernel_rfl) rfl
              exact ⟨.pointer (some ⟨B + 1 + 1, n - 15, none⟩), w5, by go_simp, Below.refl _ _, rfl⟩
            · refine stepOk_value rfl fun a w5 ht => ?_
              have e73 : a.tmps[73]?.getD undef = .pointer (some ⟨B + 1 + 1, n - 15, none⟩) := ht.dep' 7 73 (by kernel_rfl) rfl
              have hc := (ht.below.cell (p := ⟨B + 1 + 1, n - 15, none⟩) (World.block_lt_of_cell? _ _ hc15)).trans hc15
              exact ⟨.int .u32 (y15 : Int), w5, by go_simp, Below.refl _ _, rfl⟩
            · refine stepOk_call rfl fun a w5 ht => ?_
              have e74 : a.tmps[74]?.getD undef = .int .u32 (y15 : Int) := ht.dep' 8 74 (by kernel_rfl) rfl
              refine ⟨84, #[.int .u32 (y15 : Int), .int .u64 18], by go_simp, (C18.out w5).mono ?_⟩
              rintro e w' ⟨rfl, hb⟩
              exact ⟨_, rfl, hb, rfl⟩
            · refine stepOk_value rfl fun a w5 ht => ?_
              have e70 : a.tmps[70]?.getD undef = .int .u32 ((Sha.rotr y15 7 : Nat) : Int) := ht.dep' 4 70 (by kernel_rfl) rfl
              have e75 : a.tmps[75]?.getD undef = .int .u32 ((Sha.rotr y15 18 : Nat) : Int) := ht.dep' 9 75 (by kernel_rfl) rfl
              exact ⟨.int .u32 (bits BinOp.xor IntKind.u32 ((Sha.rotr y15 7 : Nat) : Int) ((Sha.rotr y15 18 : Nat) : Int)), w5, by go_simp, Below.refl _ _, rfl⟩
            · refine stepOk_value rfl fun a w5 ht => ?_
              have e8 : a.tmps[8]?.getD undef = .int .i64 (n : Int) := ht.old' 8 (.int .i64 (n : Int)) (by kernel_rfl) rfl
              exact ⟨.int .i64 (n : Int), w5, by go_simp, Below.refl _ _, rfl⟩
            · refine stepOk_value rfl fun a w5 ht => ?_
              have e77 : a.tmps[77]?.getD undef = .int .i64 (n : Int) := ht.dep' 11 77 (by kernel_rfl) rfl
              exact ⟨.int .i64 ((n : Int) - 15), w5, by go_simp, Below.refl _ _, rfl⟩
            · refine stepOk_value rfl fun a w5 ht => ?_
              have e5 : a.tmps[5]?.getD undef = .pointer (some ⟨B + 1 + 1, 0, none⟩) := ht.old' 5 (.pointer (some ⟨B + 1 + 1, 0, none⟩)) (by kernel_rfl) rfl
              have e78 : a.tmps[78]?.getD undef = .int .i64 ((n : Int) - 15) := ht.dep' 12 78 (by kernel_rfl) rfl
              exact ⟨.pointer (some ⟨B + 1 + 1, n - 15, none⟩), w5, by go_simp, Below.refl _ _, rfl⟩
            · refine stepOk_value rfl fun a w5 ht => ?_
              have e79 : a.tmps[79]?.getD undef = .pointer (some ⟨B + 1 + 1, n - 15, none⟩) := ht.dep' 13 79 (by kernel_rfl) rfl
              have hc := (ht.below.cell (p := ⟨B + 1 + 1, n - 15, none⟩) (World.block_lt_of_cell? _ _ hc15)).trans hc15
              exact ⟨.int .u32 (y15 : Int), w5, by go_simp, Below.refl _ _, rfl⟩
            · refine stepOk_value rfl fun a w5 ht => ?_
              have e80 : a.tmps[80]?.getD undef = .int .u32 (y15 : Int) := ht.dep' 14 80 (by kernel_rfl) rfl
              exact ⟨.int .u32 ((y15 : Int) / 8), w5, by go_simp, Below.refl _ _, rfl⟩
            · refine stepOk_value rfl fun a w5 ht => ?_
              have e76 : a.tmps[76]?.getD undef = .int .u32 (bits BinOp.xor IntKind.u32 ((Sha.rotr y15 7 : Nat) : Int) ((Sha.rotr y15 18 : Nat) : Int)) := ht.dep' 10 76 (by kernel_rfl) rfl
              have e81 : a.tmps[81]?.getD undef = .int .u32 ((y15 : Int) / 8) := ht.dep' 15 81 (by kernel_rfl) rfl
              exact ⟨.int .u32 (s0 : Int), w5, by go_simp, Below.refl _ _, rfl⟩
            · refine stepOk_value rfl fun a w5 ht => ?_
              have e82 : a.tmps[82]?.getD undef = .int .u32 (s0 : Int) := ht.dep' 16 82 (by kernel_rfl) rfl
              exact ⟨.int .u32 (s0 : Int), w5, by go_simp, Below.refl _ _, rfl⟩
          case hd =>
            intro vs w8 hl hb8 hvs
            have hl : vs.length = 18 := hl
            obtain ⟨v0, r0, rfl, l0⟩ := uncons vs hl
            obtain ⟨v1, r1, rfl, l1⟩ := uncons r0 l0
            obtain ⟨v2, r2, rfl, l2⟩ := uncons r1 l1
            obtain ⟨v3, r3, rfl, l3⟩ := uncons r2 l2
            obtain ⟨v4, r4, rfl, l4⟩ := uncons r3 l3
            obtain ⟨v5, r5, rfl, l5⟩ := uncons r4 l4
            obtain ⟨v6, r6, rfl, l6⟩ := uncons r5 l5
            obtain ⟨v7, r7, rfl, l7⟩ := uncons r6 l6
            obtain ⟨v8, r8, rfl, l8⟩ := uncons r7 l7
            obtain ⟨v9, r9, rfl, l9⟩ := uncons r8 l8
            obtain ⟨v10, r10, rfl, l10⟩ := uncons r9 l9
            obtain ⟨v11, r11, rfl, l11⟩ := uncons r10 l10
            obtain ⟨v12, r12, rfl, l12⟩ := uncons r11 l11
            obtain ⟨v13, r13, rfl, l13⟩ := uncons r12 l12
            obtain ⟨v14, r14, rfl, l14⟩ := uncons r13 l13
            obtain ⟨v15, r15, rfl, l15⟩ := uncons r14 l14
            obtain ⟨v16, r16, rfl, l16⟩ := uncons r15 l15
            obtain ⟨v17, r17, rfl, l17⟩ := uncons r16 l16
            obtain rfl := List.eq_nil_of_length_eq_zero l17
            have h17 : v17 = .int .u32 (s0 : Int) := hvs 17 (by decide)
            subst h17
            clear hvs
            simp only [puts, List.map, go_sem, List.setIfInBounds_toArray, List.set_cons_succ, List.set_cons_zero]
            have hb5 : Below wr.heap.size wr w8 := hb8
            have hlt7 := HLT7.out
            have HCB := Lib.hid (HC.out.below hb5)
            have HOB : Hid ((Words w8 B v.list ∧ Words w8 (B + 1) (List.replicate 8 0) ∧ Words w8 C Sha.K) ∧ Below B w w8) := ⟨⟨HO.out.1.1.below hb5, HO.out.1.2.1.below hb5, HO.out.1.2.2.below hb5⟩, HO.out.2.trans (hb5.mono (Nat.le_of_lt HO.out.1.1.lt))⟩
            have hc2 := (hb5.cell (p := ⟨B + 1 + 1, n - 2, none⟩) (World.block_lt_of_cell? _ _ hc2)).trans hc2
            have hc16 := (hb5.cell (p := ⟨B + 1 + 1, n - 16, none⟩) (World.block_lt_of_cell? _ _ hc16)).trans hc16
            have hc7 := (hb5.cell (p := ⟨B + 1 + 1, n - 7, none⟩) (World.block_lt_of_cell? _ _ hc7)).trans hc7
            have hcn := (hb5.cell (p := ⟨B + 1 + 1, n, none⟩) (World.block_lt_of_cell? _ _ hcn)).trans hcn
            have hfn := HCB.out.frozen n
            clear hb5 hb8 HC HO hc15 hlt7
            go_wp2_with fail
            refine wp_region_puts2 (R := fun i w' v => v = [Value.int .i64 (n : Int), .int .i64 ((n : Int) - 2), .pointer (some ⟨B + 1 + 1, n - 2, none⟩), .int .u32 (y2 : Int), .int .u32 ((Sha.rotr y2 17 : Nat) : Int), .int .i64 (n : Int), .int .i64 ((n : Int) - 2), .pointer (some ⟨B + 1 + 1, n - 2, none⟩), .int .u32 (y2 : Int), .int .u32 ((Sha.rotr y2 19 : Nat) : Int), .int .u32 (bits BinOp.xor IntKind.u32 ((Sha.rotr y2 17 : Nat) : Int) ((Sha.rotr y2 19 : Nat) : Int)), .int .i64 (n : Int), .int .i64 ((n : Int) - 2), .pointer (some ⟨B + 1 + 1, n - 2, none⟩), .int .u32 (y2 : Int), .int .u32 ((y2 : Int) / 1024), .int .u32 (s1 : Int), .int .u32 (s1 : Int)].getD i undef)
              (by kernel_rfl) (by kernel_rfl) (by kernel_rfl) ?hRR (by kernel_rfl) (steps_of ?hs) ?hd
            case hRR =>
              intro i w1 w2 v hb hv
              exact hv
            case hs =>
              refine ⟨?_, ?_, ?_, ?_, ?_, ?_, ?_, ?_, ?_, ?_, ?_, ?_, ?_, ?_, ?_, ?_, ?_, ?_, trivial⟩
              · refine stepOk_value rfl fun a w5 ht => ?_
                have e8 : a.tmps[8]?.getD undef = .int .i64 (n : Int) := ht.old' 8 (.int .i64 (n : Int)) (by kernel_rfl) rfl
                exact ⟨Value.int .i64 (n : Int), w5, by go_simp, Below.refl _ _, rfl⟩
              · refine stepOk_value rfl fun a w5 ht => ?_
                have e83 : a.tmps[83]?.getD undef = Value.int .i64 (n : Int) := ht.dep' 0 83 (by kernel_rfl) rfl
                exact ⟨.int .i64 ((n : Int) - 2), w5, by go_simp, Below.refl _ _, rfl⟩
              · refine stepOk_value rfl fun a w5 ht => ?_
                have e5 : a.tmps[5]?.getD undef = .pointer (some ⟨B + 1 + 1, 0, none⟩) := ht.old' 5 (.pointer (some ⟨B + 1 + 1, 0, none⟩)) (by kernel_rfl) rfl
                have e84 : a.tmps[84]?.getD undef = .int .i64 ((n : Int) - 2) := ht.dep' 1 84 (by kernel_rfl) rfl
                exact ⟨.pointer (some ⟨B + 1 + 1, n - 2, none⟩), w5, by go_simp, Below.refl _ _, rfl⟩
              · refine stepOk_value rfl fun a w5 ht => ?_
                have e85 : a.tmps[85]?.getD undef = .pointer (some ⟨B + 1 + 1, n - 2, none⟩) := ht.dep' 2 85 (by kernel_rfl) rfl
                have hc := (ht.below.cell (p := ⟨B + 1 + 1, n - 2, none⟩) (World.block_lt_of_cell? _ _ hc2)).trans hc2
                exact ⟨.int .u32 (y2 : Int), w5, by go_simp, Below.refl _ _, rfl⟩
              · refine stepOk_call rfl fun a w5 ht => ?_
                have e86 : a.tmps[86]?.getD undef = .int .u32 (y2 : Int) := ht.dep' 3 86 (by kernel_rfl) rfl
                refine ⟨84, #[.int .u32 (y2 : Int), .int .u64 17], by go_simp, (C17.out w5).mono ?_⟩
                rintro e w' ⟨rfl, hb⟩
                exact ⟨_, rfl, hb, rfl⟩
              · refine stepOk_value rfl fun a w5 ht => ?_
                have e8 : a.tmps[8]?.getD undef = .int .i64 (n : Int) := ht.old' 8 (.int .i64 (n : Int)) (by kernel_rfl) rfl
                exact ⟨.int .i64 (n : Int), w5, by go_simp, Below.refl _ _, rfl⟩
              · refine stepOk_value rfl fun a w5 ht => ?_
                have e88 : a.tmps[88]?.getD undef = .int .i64 (n : Int) := ht.dep' 5 88 (by kernel_rfl) rfl
                exact ⟨.int .i64 ((n : Int) - 2), w5, by go_simp, Below.refl _ _, rfl⟩
              · refine stepOk_value rfl fun a w5 ht => ?_
                have e5 : a.tmps[5]?.getD undef = .pointer (some ⟨B + 1 + 1, 0, none⟩) := ht.old' 5 (.pointer (some ⟨B + 1 + 1, 0, none⟩)) (by kernel_rfl) rfl
                have e89 : a.tmps[89]?.getD undef = .int .i64 ((n : Int) - 2) := ht.dep' 6 89 (by kernel_rfl) rfl
                exact ⟨.pointer (some ⟨B + 1 + 1, n - 2, none⟩), w5, by go_simp, Below.refl _ _, rfl⟩
              · refine stepOk_value rfl fun a w5 ht => ?_
                have e90 : a.tmps[90]?.getD undef = .pointer (some ⟨B + 1 + 1, n - 2, none⟩) := ht.dep' 7 90 (by kernel_rfl) rfl
                have hc := (ht.below.cell (p := ⟨B + 1 + 1, n - 2, none⟩) (World.block_lt_of_cell? _ _ hc2)).trans hc2
                exact ⟨.int .u32 (y2 : Int), w5, by go_simp, Below.refl _ _, rfl⟩
              · refine stepOk_call rfl fun a w5 ht => ?_
                have e91 : a.tmps[91]?.getD undef = .int .u32 (y2 : Int) := ht.dep' 8 91 (by kernel_rfl) rfl
                refine ⟨84, #[.int .u32 (y2 : Int), .int .u64 19], by go_simp, (C19.out w5).mono ?_⟩
                rintro e w' ⟨rfl, hb⟩
                exact ⟨_, rfl, hb, rfl⟩
              · refine stepOk_value rfl fun a w5 ht => ?_
                have e87 : a.tmps[87]?.getD undef = .int .u32 ((Sha.rotr y2 17 : Nat) : Int) := ht.dep' 4 87 (by kernel_rfl) rfl
                have e92 : a.tmps[92]?.getD undef = .int .u32 ((Sha.rotr y2 19 : Nat) : Int) := ht.dep' 9 92 (by kernel_rfl) rfl
                exact ⟨.int .u32 (bits BinOp.xor IntKind.u32 ((Sha.rotr y2 17 : Nat) : Int) ((Sha.rotr y2 19 : Nat) : Int)), w5, by go_simp, Below.refl _ _, rfl⟩
              · refine stepOk_value rfl fun a w5 ht => ?_
                have e8 : a.tmps[8]?.getD undef = .int .i64 (n : Int) := ht.old' 8 (.int .i64 (n : Int)) (by kernel_rfl) rfl
                exact ⟨.int .i64 (n : Int), w5, by go_simp, Below.refl _ _, rfl⟩
              · refine stepOk_value rfl fun a w5 ht => ?_
                have e94 : a.tmps[94]?.getD undef = .int .i64 (n : Int) := ht.dep' 11 94 (by kernel_rfl) rfl
                exact ⟨.int .i64 ((n : Int) - 2), w5, by go_simp, Below.refl _ _, rfl⟩
              · refine stepOk_value rfl fun a w5 ht => ?_
                have e5 : a.tmps[5]?.getD undef = .pointer (some ⟨B + 1 + 1, 0, none⟩) := ht.old' 5 (.pointer (some ⟨B + 1 + 1, 0, none⟩)) (by kernel_rfl) rfl
                have e95 : a.tmps[95]?.getD undef = .int .i64 ((n : Int) - 2) := ht.dep' 12 95 (by kernel_rfl) rfl
                exact ⟨.pointer (some ⟨B + 1 + 1, n - 2, none⟩), w5, by go_simp, Below.refl _ _, rfl⟩
              · refine stepOk_value rfl fun a w5 ht => ?_
                have e96 : a.tmps[96]?.getD undef = .pointer (some ⟨B + 1 + 1, n - 2, none⟩) := ht.dep' 13 96 (by kernel_rfl) rfl
                have hc := (ht.below.cell (p := ⟨B + 1 + 1, n - 2, none⟩) (World.block_lt_of_cell? _ _ hc2)).trans hc2
                exact ⟨.int .u32 (y2 : Int), w5, by go_simp, Below.refl _ _, rfl⟩
              · refine stepOk_value rfl fun a w5 ht => ?_
                have e97 : a.tmps[97]?.getD undef = .int .u32 (y2 : Int) := ht.dep' 14 97 (by kernel_rfl) rfl
                exact ⟨.int .u32 ((y2 : Int) / 1024), w5, by go_simp, Below.refl _ _, rfl⟩
              · refine stepOk_value rfl fun a w5 ht => ?_
                have e93 : a.tmps[93]?.getD undef = .int .u32 (bits BinOp.xor IntKind.u32 ((Sha.rotr y2 17 : Nat) : Int) ((Sha.rotr y2 19 : Nat) : Int)) := ht.dep' 10 93 (by kernel_rfl) rfl
                have e98 : a.tmps[98]?.getD undef = .int .u32 ((y2 : Int) / 1024) := ht.dep' 15 98 (by kernel_rfl) rfl
                exact ⟨.int .u32 (s1 : Int), w5, by go_simp, Below.refl _ _, rfl⟩
              · refine stepOk_value rfl fun a w5 ht => ?_
                have e99 : a.tmps[99]?.getD undef = .int .u32 (s1 : Int) := ht.dep' 16 99 (by kernel_rfl) rfl
                exact ⟨.int .u32 (s1 : Int), w5, by go_simp, Below.refl _ _, rfl⟩
            case hd =>
              intro vs w9 hl hb9 hvs
              have hl : vs.length = 18 := hl
              obtain ⟨v0, r0, rfl, l0⟩ := uncons vs hl
              obtain ⟨v1, r1, rfl, l1⟩ := uncons r0 l0
              obtain ⟨v2, r2, rfl, l2⟩ := uncons r1 l1
              obtain ⟨v3, r3, rfl, l3⟩ := uncons r2 l2
              obtain ⟨v4, r4, rfl, l4⟩ := uncons r3 l3
              obtain ⟨v5, r5, rfl, l5⟩ := uncons r4 l4
              obtain ⟨v6, r6, rfl, l6⟩ := uncons r5 l5
              obtain ⟨v7, r7, rfl, l7⟩ := uncons r6 l6
              obtain ⟨v8, r8, rfl, l8⟩ := uncons r7 l7
              obtain ⟨v9, r9, rfl, l9⟩ := uncons r8 l8
              obtain ⟨v10, r10, rfl, l10⟩ := uncons r9 l9
              obtain ⟨v11, r11, rfl, l11⟩ := uncons r10 l10
              obtain ⟨v12, r12, rfl, l12⟩ := uncons r11 l11
              obtain ⟨v13, r13, rfl, l13⟩ := uncons r12 l12
              obtain ⟨v14, r14, rfl, l14⟩ := uncons r13 l13
              obtain ⟨v15, r15, rfl, l15⟩ := uncons r14 l14
              obtain ⟨v16, r16, rfl, l16⟩ := uncons r15 l15
              obtain ⟨v17, r17, rfl, l17⟩ := uncons r16 l16
              obtain rfl := List.eq_nil_of_length_eq_zero l17
              have h17 : v17 = .int .u32 (s1 : Int) := hvs 17 (by decide)
              subst h17
              clear hvs
              simp only [puts, List.map, go_sem, List.setIfInBounds_toArray, List.set_cons_succ, List.set_cons_zero]
              have hb5 : Below w8.heap.size w8 w9 := hb9
              have HC := Lib.hid (HCB.out.below hb5)
              have HO : Hid ((Words w9 B v.list ∧ Words w9 (B + 1) (List.replicate 8 0) ∧ Words w9 C Sha.K) ∧ Below B w w9) := ⟨⟨HOB.out.1.1.below hb5, HOB.out.1.2.1.below hb5, HOB.out.1.2.2.below hb5⟩, HOB.out.2.trans (hb5.mono (Nat.le_of_lt HOB.out.1.1.lt))⟩
              have hc16 := (hb5.cell (p := ⟨B + 1 + 1, n - 16, none⟩) (World.block_lt_of_cell? _ _ hc16)).trans hc16
              have hc7 := (hb5.cell (p := ⟨B + 1 + 1, n - 7, none⟩) (World.block_lt_of_cell? _ _ hc7)).trans hc7
              have hcn := (hb5.cell (p := ⟨B + 1 + 1, n, none⟩) (World.block_lt_of_cell? _ _ hcn)).trans hcn
              have hfn := HC.out.frozen n
              clear hb5 hb9 HCB HOB hc2 C7 C18 C17 C19
              go_wp2_with fail
              go_still_tail 15, (by kernel_rfl)
              refine name_list (fun w2 => (w2.cell? ⟨B + 1 + 1, n, none⟩ = some (.int .u32 (old : Int)) ∧ w2.frozen? ⟨B + 1 + 1, n, none⟩ = false) ∧ Hid (Words w2 (B + 1 + 1) (arr L) ∧ (Words w2 B v.list ∧ Words w2 (B + 1) (List.replicate 8 0) ∧ Words w2 C Sha.K) ∧ Below B w w2)) ?_ ?_
              · have h := HO.out.2
                exact ⟨⟨hcn, hfn⟩, HC.out, HO.out.1, ⟨h.os, h.tape, h.output, h.size, h.block⟩⟩
              rintro w2 ⟨⟨hc3, hf3⟩, HO2⟩
              have HC3 := Lib.hid (HX.out w2 HO2.out.1)
              have hlt7 := HLT7.out
              have HO3 : Hid ((Words (w2.setCell ⟨B + 1 + 1, n, none⟩ (.int .u32 (x : Int))) B v.list ∧ Words (w2.setCell ⟨B + 1 + 1, n, none⟩ (.int .u32 (x : Int))) (B + 1) (List.replicate 8 0) ∧ Words (w2.setCell ⟨B + 1 + 1, n, none⟩ (.int .u32 (x : Int))) C Sha.K) ∧ Below B w (w2.setCell ⟨B + 1 + 1, n, none⟩ (.int .u32 (x : Int)))) :=
                ⟨⟨HO2.out.2.1.1.other (by omega) _ _, HO2.out.2.1.2.1.other (by omega) _ _, HO2.out.2.1.2.2.other (by omega) _ _⟩, HO2.out.2.2.setCell (p := ⟨B + 1 + 1, n, none⟩) (by simp; omega) _⟩
              clear HX HO HC hc16 hc7 hcn hfn hs0 hs1 HO2 hsum x15 x2 q15 q2 q16 q7 z15 z2 z16 z7 t15 t2 t16 t7 y15' y2' y16' y7' hlt7
              go_wp2_with fail
              go_roundw
              case rel => exact ⟨n + 1, by omega, by omega, by go_num, HC3, HO3⟩
              case measure => simp [intOf]; omega
--}R2
        · obtain rfl : n = 64 := by omega
          obtain ⟨L, hL⟩ : ∃ L, Sha.more (64 - 16) W = L := ⟨_, rfl⟩
          have hLn : L.length = 64 := by rw [← hL, Sha.more_length, HWL.out]
          have HLW : Hid (L = Sha.wds l) := by show _ = _; rw [← hL, HW.out]; exact wds_more _
          have HLL := Lib.hid hLn
          have HLB : Hid (∀ i, L.getD i 0 < 4294967296) := by show ∀ i, _; rw [← hL]; exact Sha.more_lt _ _ HWB.out
          have harr : arr L = L := by unfold arr; rw [hLn]; simp
          rw [hL, harr] at HC
          clear hL hLn harr HW HWL HWB
          have HFIN : Hid (mx = (Sha.rnds L 64 v).add v) := by show _ = _; rw [HMX.out, mix_fin v l L HLW.out 64 rfl]
          have HRZ : Hid (Sha.rnds L 0 v = v) := rfl
          clear HMX HLW
          have HVO : Hid (v.ok) := HV.out
          obtain ⟨va, vb, vc, vd, ve, vf, vg, vh⟩ := v
          have hv0 : wr.cell? ⟨B, 0, none⟩ = some (.int .u32 (va : Int)) := HO.out.1.1.cell 0 (by show 0 < 8; omega)
          have hv1 : wr.cell? ⟨B, 1, none⟩ = some (.int .u32 (vb : Int)) := HO.out.1.1.cell 1 (by show 1 < 8; omega)
          have hv2 : wr.cell? ⟨B, 2, none⟩ = some (.int .u32 (vc : Int)) := HO.out.1.1.cell 2 (by show 2 < 8; omega)
          have hv3 : wr.cell? ⟨B, 3, none⟩ = some (.int .u32 (vd : Int)) := HO.out.1.1.cell 3 (by show 3 < 8; omega)
          have hv4 : wr.cell? ⟨B, 4, none⟩ = some (.int .u32 (ve : Int)) := HO.out.1.1.cell 4 (by show 4 < 8; omega)
          have hv5 : wr.cell? ⟨B, 5, none⟩ = some (.int .u32 (vf : Int)) := HO.out.1.1.cell 5 (by show 5 < 8; omega)
          have hv6 : wr.cell? ⟨B, 6, none⟩ = some (.int .u32 (vg : Int)) := HO.out.1.1.cell 6 (by show 6 < 8; omega)
          have hv7 : wr.cell? ⟨B, 7, none⟩ = some (.int .u32 (vh : Int)) := HO.out.1.1.cell 7 (by show 7 < 8; omega)
          go_wp2_with fail
          refine wp_region_puts2 (R := fun i w' v => v = [Value.pointer (some ⟨B, 0, none⟩), .int .u32 (va : Int), .pointer (some ⟨B, 1, none⟩), .int .u32 (vb : Int), .pointer (some ⟨B, 2, none⟩), .int .u32 (vc : Int), .pointer (some ⟨B, 3, none⟩), .int .u32 (vd : Int), .pointer (some ⟨B, 4, none⟩), .int .u32 (ve : Int), .pointer (some ⟨B, 5, none⟩), .int .u32 (vf : Int), .pointer (some ⟨B, 6, none⟩), .int .u32 (vg : Int), .pointer (some ⟨B, 7, none⟩), .int .u32 (vh : Int), .int .u32 (va : Int), .int .u32 (vb : Int), .int .u32 (vc : Int), .int .u32 (vd : Int), .int .u32 (ve : Int), .int .u32 (vf : Int), .int .u32 (vg : Int), .int .u32 (vh : Int)].getD i undef)
            (by kernel_rfl) (by kernel_rfl) (by kernel_rfl) ?hRR (by kernel_rfl) (steps_of ?hs) ?hd
          case hRR =>
            intro i w1 w2 v hb hv
            exact hv
          case hs =>
            refine ⟨?_, ?_, ?_, ?_, ?_, ?_, ?_, ?_, ?_, ?_, ?_, ?_, ?_, ?_, ?_, ?_, ?_, ?_, ?_, ?_, ?_, ?_, ?_, ?_, trivial⟩
            · refine stepOk_value rfl fun a w5 ht => ?_
              have e2 : a.tmps[2]?.getD undef = .pointer (some ⟨B, 0, none⟩) := ht.old' 2 (.pointer (some ⟨B, 0, none⟩)) (by kernel_rfl) rfl
              exact ⟨Value.pointer (some ⟨B, 0, none⟩), w5, by go_simp, Below.refl _ _, rfl⟩
            · refine stepOk_value rfl fun a w5 ht => ?_
              have e115 : a.tmps[115]?.getD undef = Value.pointer (some ⟨B, 0, none⟩) := ht.dep' 0 115 (by kernel_rfl) rfl
              have hc := (ht.below.cell (p := ⟨B, 0, none⟩) (World.block_lt_of_cell? _ _ hv0)).trans hv0
              exact ⟨.int .u32 (va : Int), w5, by go_simp, Below.refl _ _, rfl⟩
            · refine stepOk_value rfl fun a w5 ht => ?_
              have e2 : a.tmps[2]?.getD undef = .pointer (some ⟨B, 0, none⟩) := ht.old' 2 (.pointer (some ⟨B, 0, none⟩)) (by kernel_rfl) rfl
              exact ⟨.pointer (some ⟨B, 1, none⟩), w5, by go_simp, Below.refl _ _, rfl⟩
            · refine stepOk_value rfl fun a w5 ht => ?_
              have e117 : a.tmps[117]?.getD undef = .pointer (some ⟨B, 1, none⟩) := ht.dep' 2 117 (by kernel_rfl) rfl
              have hc := (ht.below.cell (p := ⟨B, 1, none⟩) (World.block_lt_of_cell? _ _ hv1)).trans hv1
              exact ⟨.int .u32 (vb : Int), w5, by go_simp, Below.refl _ _, rfl⟩
            · refine stepOk_value rfl fun a w5 ht => ?_
              have e2 : a.tmps[2]?.getD undef = .pointer (some ⟨B, 0, none⟩) := ht.old' 2 (.pointer (some ⟨B, 0, none⟩)) (by kernel_rfl) rfl
              exact ⟨.pointer (some ⟨B, 2, none⟩), w5, by go_simp, Below.refl _ _, rfl⟩
            · refine stepOk_value rfl fun a w5 ht => ?_
              have e119 : a.tmps[119]?.getD undef = .pointer (some ⟨B, 2, none⟩) := ht.dep' 4 119 (by kernel_rfl) rfl
              have hc := (ht.below.cell (p := ⟨B, 2, none⟩) (World.block_lt_of_cell? _ _ hv2)).trans hv2
              exact ⟨.int .u32 (vc : Int), w5, by go_simp, Below.refl _ _, rfl⟩
            · refine stepOk_value rfl fun a w5 ht => ?_
              have e2 : a.tmps[2]?.getD undef = .pointer (some ⟨B, 0, none⟩) := ht.old' 2 (.pointer (some ⟨B, 0, none⟩)) (by kernel_rfl) rfl
              exact ⟨.pointer (some ⟨B, 3, none⟩), w5, by go_simp, Below.refl _ _, rfl⟩
            · refine stepOk_value rfl fun a w5 ht => ?_
              have e121 : a.tmps[121]?.getD undef = .pointer (some ⟨B, 3, none⟩) := ht.dep' 6 121 (by kernel_rfl) rfl
              have hc := (ht.below.cell (p := ⟨B, 3, none⟩) (World.block_lt_of_cell? _ _ hv3)).trans hv3
              exact ⟨.int .u32 (vd : Int), w5, by go_simp, Below.refl _ _, rfl⟩
            · refine stepOk_value rfl fun a w5 ht => ?_
              have e2 : a.tmps[2]?.getD undef = .pointer (some ⟨B, 0, none⟩) := ht.old' 2 (.pointer (some ⟨B, 0, none⟩)) (by kernel_rfl) rfl
              exact ⟨.pointer (some ⟨B, 4, none⟩), w5, by go_simp, Below.refl _ _, rfl⟩
            · refine stepOk_value rfl fun a w5 ht => ?_
              have e123 : a.tmps[123]?.getD undef = .pointer (some ⟨B, 4, none⟩) := ht.dep' 8 123 (by kernel_rfl) rfl
              have hc := (ht.below.cell (p := ⟨B, 4, none⟩) (World.block_lt_of_cell? _ _ hv4)).trans hv4
              exact ⟨.int .u32 (ve : Int), w5, by go_simp, Below.refl _ _, rfl⟩
            · refine stepOk_value rfl fun a w5 ht => ?_
              have e2 : a.tmps[2]?.getD undef = .pointer (some ⟨B, 0, none⟩) := ht.old' 2 (.pointer (some ⟨B, 0, none⟩)) (by kernel_rfl) rfl
              exact ⟨.pointer (some ⟨B, 5, none⟩), w5, by go_simp, Below.refl _ _, rfl⟩
            · refine stepOk_value rfl fun a w5 ht => ?_
              have e125 : a.tmps[125]?.getD undef = .pointer (some ⟨B, 5, none⟩) := ht.dep' 10 125 (by kernel_rfl) rfl
              have hc := (ht.below.cell (p := ⟨B, 5, none⟩) (World.block_lt_of_cell? _ _ hv5)).trans hv5
              exact ⟨.int .u32 (vf : Int), w5, by go_simp, Below.refl _ _, rfl⟩
            · refine stepOk_value rfl fun a w5 ht => ?_
              have e2 : a.tmps[2]?.getD undef = .pointer (some ⟨B, 0, none⟩) := ht.old' 2 (.pointer (some ⟨B, 0, none⟩)) (by kernel_rfl) rfl
              exact ⟨.pointer (some ⟨B, 6, none⟩), w5, by go_simp, Below.refl _ _, rfl⟩
            · refine stepOk_value rfl fun a w5 ht => ?_
              have e127 : a.tmps[127]?.getD undef = .pointer (some ⟨B, 6, none⟩) := ht.dep' 12 127 (by kernel_rfl) rfl
              have hc := (ht.below.cell (p := ⟨B, 6, none⟩) (World.block_lt_of_cell? _ _ hv6)).trans hv6
              exact ⟨.int .u32 (vg : Int), w5, by go_simp, Below.refl _ _, rfl⟩
            · refine stepOk_value rfl fun a w5 ht => ?_
              have e2 : a.tmps[2]?.getD undef = .pointer (some ⟨B, 0, none⟩) := ht.old' 2 (.pointer (some ⟨B, 0, none⟩)) (by kernel_rfl) rfl
              exact ⟨.pointer (some ⟨B, 7, none⟩), w5, by go_simp, Below.refl _ _, rfl⟩
            · refine stepOk_value rfl fun a w5 ht => ?_
              have e129 : a.tmps[129]?.getD undef = .pointer (some ⟨B, 7, none⟩) := ht.dep' 14 129 (by kernel_rfl) rfl
              have hc := (ht.below.cell (p := ⟨B, 7, none⟩) (World.block_lt_of_cell? _ _ hv7)).trans hv7
              exact ⟨.int .u32 (vh : Int), w5, by go_simp, Below.refl _ _, rfl⟩
            · refine stepOk_value rfl fun a w5 ht => ?_
              have e116 : a.tmps[116]?.getD undef = .int .u32 (va : Int) := ht.dep' 1 116 (by kernel_rfl) rfl
              exact ⟨.int .u32 (va : Int), w5, by go_simp, Below.refl _ _, rfl⟩
            · refine stepOk_value rfl fun a w5 ht => ?_
              have e118 : a.tmps[118]?.getD undef = .int .u32 (vb : Int) := ht.dep' 3 118 (by kernel_rfl) rfl
              exact ⟨.int .u32 (vb : Int), w5, by go_simp, Below.refl _ _, rfl⟩
            · refine stepOk_value rfl fun a w5 ht => ?_
              have e120 : a.tmps[120]?.getD undef = .int .u32 (vc : Int) := ht.dep' 5 120 (by kernel_rfl) rfl
              exact ⟨.int .u32 (vc : Int), w5, by go_simp, Below.refl _ _, rfl⟩
            · refine stepOk_value rfl fun a w5 ht => ?_
              have e122 : a.tmps[122]?.getD undef = .int .u32 (vd : Int) := ht.dep' 7 122 (by kernel_rfl) rfl
              exact ⟨.int .u32 (vd : Int), w5, by go_simp, Below.refl _ _, rfl⟩
            · refine stepOk_value rfl fun a w5 ht => ?_
              have e124 : a.tmps[124]?.getD undef = .int .u32 (ve : Int) := ht.dep' 9 124 (by kernel_rfl) rfl
              exact ⟨.int .u32 (ve : Int), w5, by go_simp, Below.refl _ _, rfl⟩
            · refine stepOk_value rfl fun a w5 ht => ?_
              have e126 : a.tmps[126]?.getD undef = .int .u32 (vf : Int) := ht.dep' 11 126 (by kernel_rfl) rfl
              exact ⟨.int .u32 (vf : Int), w5, by go_simp, Below.refl _ _, rfl⟩
            · refine stepOk_value rfl fun a w5 ht => ?_
              have e128 : a.tmps[128]?.getD undef = .int .u32 (vg : Int) := ht.dep' 13 128 (by kernel_rfl) rfl
              exact ⟨.int .u32 (vg : Int), w5, by go_simp, Below.refl _ _, rfl⟩
            · refine stepOk_value rfl fun a w5 ht => ?_
              have e130 : a.tmps[130]?.getD undef = .int .u32 (vh : Int) := ht.dep' 15 130 (by kernel_rfl) rfl
              exact ⟨.int .u32 (vh : Int), w5, by go_simp, Below.refl _ _, rfl⟩
          case hd =>
            intro vs w8 hl hb8 hvs
            have hl : vs.length = 24 := hl
            obtain ⟨v0, r0, rfl, l0⟩ := uncons vs hl
            obtain ⟨v1, r1, rfl, l1⟩ := uncons r0 l0
            obtain ⟨v2, r2, rfl, l2⟩ := uncons r1 l1
            obtain ⟨v3, r3, rfl, l3⟩ := uncons r2 l2
            obtain ⟨v4, r4, rfl, l4⟩ := uncons r3 l3
            obtain ⟨v5, r5, rfl, l5⟩ := uncons r4 l4
            obtain ⟨v6, r6, rfl, l6⟩ := uncons r5 l5
            obtain ⟨v7, r7, rfl, l7⟩ := uncons r6 l6
            obtain ⟨v8, r8, rfl, l8⟩ := uncons r7 l7
            obtain ⟨v9, r9, rfl, l9⟩ := uncons r8 l8
            obtain ⟨v10, r10, rfl, l10⟩ := uncons r9 l9
            obtain ⟨v11, r11, rfl, l11⟩ := uncons r10 l10
            obtain ⟨v12, r12, rfl, l12⟩ := uncons r11 l11
            obtain ⟨v13, r13, rfl, l13⟩ := uncons r12 l12
            obtain ⟨v14, r14, rfl, l14⟩ := uncons r13 l13
            obtain ⟨v15, r15, rfl, l15⟩ := uncons r14 l14
            obtain ⟨v16, r16, rfl, l16⟩ := uncons r15 l15
            obtain ⟨v17, r17, rfl, l17⟩ := uncons r16 l16
            obtain ⟨v18, r18, rfl, l18⟩ := uncons r17 l17
            obtain ⟨v19, r19, rfl, l19⟩ := uncons r18 l18
            obtain ⟨v20, r20, rfl, l20⟩ := uncons r19 l19
            obtain ⟨v21, r21, rfl, l21⟩ := uncons r20 l20
            obtain ⟨v22, r22, rfl, l22⟩ := uncons r21 l21
            obtain ⟨v23, r23, rfl, l23⟩ := uncons r22 l22
            obtain rfl := List.eq_nil_of_length_eq_zero l23
            have h16 : v16 = .int .u32 (va : Int) := hvs 16 (by decide)
            subst h16
            have h17 : v17 = .int .u32 (vb : Int) := hvs 17 (by decide)
            subst h17
            have h18 : v18 = .int .u32 (vc : Int) := hvs 18 (by decide)
            subst h18
            have h19 : v19 = .int .u32 (vd : Int) := hvs 19 (by decide)
            subst h19
            have h20 : v20 = .int .u32 (ve : Int) := hvs 20 (by decide)
            subst h20
            have h21 : v21 = .int .u32 (vf : Int) := hvs 21 (by decide)
            subst h21
            have h22 : v22 = .int .u32 (vg : Int) := hvs 22 (by decide)
            subst h22
            have h23 : v23 = .int .u32 (vh : Int) := hvs 23 (by decide)
            subst h23
            clear hvs
            simp only [puts, List.map, go_sem, List.setIfInBounds_toArray, List.set_cons_succ, List.set_cons_zero]
            have hb5 : Below wr.heap.size wr w8 := hb8
            have HC8 := Lib.hid (HC.out.below hb5)
            have HO8 : Hid ((Words w8 B [va, vb, vc, vd, ve, vf, vg, vh] ∧ Words w8 (B + 1) (List.replicate 8 0) ∧ Words w8 C Sha.K) ∧ Below B w w8) := ⟨⟨HO.out.1.1.below hb5, HO.out.1.2.1.below hb5, HO.out.1.2.2.below hb5⟩, HO.out.2.trans (hb5.mono (Nat.le_of_lt HO.out.1.1.lt))⟩
            clear hb5 hb8 HC HO hv0 hv1 hv2 hv3 hv4 hv5 hv6 hv7
            go_wp2_with fail
            go_loopw [11, 12, 13, 14, 15, 16, 17, 18, 19, 20, 21] (fun xa xb xc xd xe xf xg xh i _ _ wr => ∃ (n a b c d e f g p8 : Nat), (n : Int) ≤ 64 ∧ i = .int .i64 (n : Int) ∧ xa = .int .u32 (a : Int) ∧ xb = .int .u32 (b : Int) ∧ xc = .int .u32 (c : Int) ∧ xd = .int .u32 (d : Int) ∧ xe = .int .u32 (e : Int) ∧ xf = .int .u32 (f : Int) ∧ xg = .int .u32 (g : Int) ∧ xh = .int .u32 (p8 : Int) ∧
              Hid (Sha.rnds L n ⟨va, vb, vc, vd, ve, vf, vg, vh⟩ = ⟨a, b, c, d, e, f, g, p8⟩) ∧ Hid (Words wr (B + 1 + 1) L) ∧ Hid ((Words wr B [va, vb, vc, vd, ve, vf, vg, vh] ∧ Words wr (B + 1) (List.replicate 8 0) ∧ Words wr C Sha.K) ∧ Below B w wr)) (fun _ _ _ _ _ _ _ _ i _ _ _ => 64 - (intOf i).toNat)
            case atStart => exact ⟨0, va, vb, vc, vd, ve, vf, vg, vh, by omega, rfl, rfl, rfl, rfl, rfl, rfl, rfl, rfl, rfl, HRZ, HC8, HO8⟩
            case round =>
              clear HC8 HO8 HRZ
              obtain ⟨n, a, b, c, d, e, f, g, p8, h64, rfl, rfl, rfl, rfl, rfl, rfl, rfl, rfl, rfl, HRN, HC, HO⟩ := hrel
              by_cases hlt : (n : Int) < 64
--R3{
              · have hok : (Sha.rnds L n ⟨va, vb, vc, vd, ve, vf, vg, vh⟩).ok := Sha.rnds_ok L n HVO.out
                have HNX := Lib.hid (rnds_succ L n ⟨va, vb, vc, vd, ve, vf, vg, vh⟩)
                rw [HRN.out] at hok HNX
                have hwk : wr.cell? ⟨C, n, none⟩ = some (.int .u32 ((Sha.K.getD n 0 : Nat) : Int)) := HO.out.1.2.2.cell n (by show n < 64; omega)
                have hwl := HC.out.cell n (by rw [HLL.out]; omega)
                have hkl : Sha.K.getD n 0 < 4294967296 := K_lt n
                have hll := HLB.out n
                generalize Sha.K.getD n 0 = kk at *
                generalize L.getD n 0 = ww at *
                obtain ⟨oa, ob, oc, od, oe, of, og, oh⟩ := hok
                dsimp only at oa ob oc od oe of og oh
                have HR : Hid (Sha.rnd ⟨a, b, c, d, e, f, g, p8⟩ kk ww = ⟨((p8 + Sha.big1 e + Sha.ch e f g + kk + ww) % 4294967296 + Sha.big0 a + Sha.maj a b c) % 4294967296, a, b, c, (d + (p8 + Sha.big1 e + Sha.ch e f g + kk + ww) % 4294967296) % 4294967296, e, f, g⟩) := rfl
                have hb1 := xor3 _ _ _ (Sha.rotr_lt (k := 6) oe) (Sha.rotr_lt (k := 11) oe) (Sha.rotr_lt (k := 25) oe)
                have hb0 := xor3 _ _ _ (Sha.rotr_lt (k := 2) oa) (Sha.rotr_lt (k := 13) oa) (Sha.rotr_lt (k := 22) oa)
                have hne : bits BinOp.xor IntKind.u32 (if IntKind.u32.signed = true then -1 else IntKind.u32.max) (e : Int) = ((4294967295 - e : Nat) : Int) := by rw [if_neg (by decide)]; exact not_bits oe
                have hnl : 4294967295 - e < 4294967296 := by omega
                have hef := u32_and_nat e f oe of
                have hng := u32_and_nat (4294967295 - e) g hnl og
                have hcx := u32_xor_nat (e &&& f) ((4294967295 - e) &&& g) (Sha.and_lt oe) (Sha.and_lt hnl)
                have hab := u32_and_nat a b oa ob
                have hac := u32_and_nat a c oa oc
                have hbc := u32_and_nat b c ob oc
                have hmj := xor3 (a &&& b) (a &&& c) (b &&& c) (Sha.and_lt oa) (Sha.and_lt oa) (Sha.and_lt ob)
                rw [show Sha.rotr e 6 ^^^ Sha.rotr e 11 ^^^ Sha.rotr e 25 = Sha.big1 e from rfl] at hb1
                rw [show Sha.rotr a 2 ^^^ Sha.rotr a 13 ^^^ Sha.rotr a 22 = Sha.big0 a from rfl] at hb0
                rw [show (e &&& f) ^^^ ((4294967295 - e) &&& g) = Sha.ch e f g from rfl] at hcx
                rw [show (a &&& b) ^^^ (a &&& c) ^^^ (b &&& c) = Sha.maj a b c from rfl] at hmj
                have C6 := Lib.hid (fun w => turnQ e 6 26 6 rfl oe (by omega) (by omega) (by omega) w)
                have C11 := Lib.hid (fun w => turnQ e 11 21 11 rfl oe (by omega) (by omega) (by omega) w)
                have C25 := Lib.hid (fun w => turnQ e 25 7 25 rfl oe (by omega) (by omega) (by omega) w)
                have C2 := Lib.hid (fun w => turnQ a 2 30 2 rfl oa (by omega) (by omega) (by omega) w)
                have C13 := Lib.hid (fun w => turnQ a 13 19 13 rfl oa (by omega) (by omega) (by omega) w)
                have C22 := Lib.hid (fun w => turnQ a 22 10 22 rfl oa (by omega) (by omega) (by omega) w)
                generalize Sha.big1 e = b1 at *
                generalize Sha.big0 a = b0 at *
                generalize Sha.ch e f g = cx at *
                generalize Sha.maj a b c = mj at *
                generalize 4294967295 - e = ne at *
                generalize e &&& f = ef at *
                generalize ne &&& g = ng at *
                generalize a &&& b = ab at *
                generalize a &&& c = ac at *
                generalize b &&& c = bc at *
                have g1 := add2_wrap p8 b1
                obtain ⟨s1, hs1⟩ : ∃ s, (p8 + b1) % 4294967296 = s := ⟨_, rfl⟩
                rw [hs1] at g1
                have g2 := add2_wrap s1 cx
                obtain ⟨s2, hs2⟩ : ∃ s, (s1 + cx) % 4294967296 = s := ⟨_, rfl⟩
                rw [hs2] at g2
                have g3 := add2_wrap s2 kk
                obtain ⟨s3, hs3⟩ : ∃ s, (s2 + kk) % 4294967296 = s := ⟨_, rfl⟩
                rw [hs3] at g3
                have g4 := add2_wrap s3 ww
                obtain ⟨T, hT⟩ : ∃ s, (s3 + ww) % 4294967296 = s := ⟨_, rfl⟩
                rw [hT] at g4
                have g5 := add2_wrap b0 mj
                obtain ⟨M, hM⟩ : ∃ s, (b0 + mj) % 4294967296 = s := ⟨_, rfl⟩
                rw [hM] at g5
                have g6 := add2_wrap d T
                obtain ⟨E2, hE2⟩ : ∃ s, (d + T) % 4294967296 = s := ⟨_, rfl⟩
                rw [hE2] at g6
                have g7 := add2_wrap T M
                obtain ⟨A2, hA2⟩ : ∃ s, (T + M) % 4294967296 = s := ⟨_, rfl⟩
                rw [hA2] at g7
                have HST : Hid (Sha.rnds L (n + 1) ⟨va, vb, vc, vd, ve, vf, vg, vh⟩ = ⟨A2, a, b, c, E2, e, f, g⟩) := by
                  show _ = _
                  rw [HNX.out, HR.out]
                  have x1 : (p8 + b1 + cx + kk + ww) % 4294967296 = T := by omega
                  rw [x1]
                  have x2 : (T + b0 + mj) % 4294967296 = A2 := by omega
                  rw [x2, hE2]
                clear hs1 hs2 hs3 hT hM hE2 hA2 HR HNX hnl hkl hll oa ob oc od oe of og oh
                go_wp2_with fail
                refine wp_region_puts2 (R := fun i w' v => v = [Value.int .u32 (p8 : Int), .int .u32 (e : Int), .int .u32 ((Sha.rotr e 6 : Nat) : Int), .int .u32 (e : Int), .int .u32 ((Sha.rotr e 11 : Nat) : Int), .int .u32 (bits BinOp.xor IntKind.u32 ((Sha.rotr e 6 : Nat) : Int) ((Sha.rotr e 11 : Nat) : Int)), .int .u32 (e : Int), .int .u32 ((Sha.rotr e 25 : Nat) : Int), .int .u32 (b1 : Int), .int .u32 (s1 : Int), .int .u32 (e : Int), .int .u32 (f : Int), .int .u32 (ef : Int), .int .u32 (e : Int), .int .u32 (ne : Int), .int .u32 (g : Int), .int .u32 (ng : Int), .int .u32 (cx : Int), .int .u32 (s2 : Int), .int .i64 (n : Int), .pointer (some ⟨C, n, none⟩), .int .u32 (kk : Int), .int .u32 (s3 : Int), .int .i64 (n : Int), .pointer (some ⟨B + 1 + 1, n, none⟩), .int .u32 (ww : Int), .int .u32 (T : Int), .int .u32 (T : Int)].getD i undef)
                  (by kernel_rfl) (by kernel_rfl) (by kernel_rfl) ?hRR (by kernel_rfl) (steps_of ?hs) ?hd
                case hRR =>
                  intro i w1 w2 v hb hv
                  exact hv
                case hs =>
                  refine ⟨?_, ?_, ?_, ?_, ?_, ?_, ?_, ?_, ?_, ?_, ?_, ?_, ?_, ?_, ?_, ?_, ?_, ?_, ?_, ?_, ?_, ?_, ?_, ?_, ?_, ?_, ?_, ?_, trivial⟩
                  · refine stepOk_value rfl fun a w5 ht => ?_
                    have e18 : a.tmps[18]?.getD undef = .int .u32 (p8 : Int) := ht.old' 18 (.int .u32 (p8 : Int)) (by kernel_rfl) rfl
                    exact ⟨Value.int .u32 (p8 : Int), w5, by go_simp, Below.refl _ _, rfl⟩
                  · refine stepOk_value rfl fun a w5 ht => ?_
                    have e15 : a.tmps[15]?.getD undef = .int .u32 (e : Int) := ht.old' 15 (.int .u32 (e : Int)) (by kernel_rfl) rfl
                    exact ⟨.int .u32 (e : Int), w5, by go_simp, Below.refl _ _, rfl⟩
                  · refine stepOk_call rfl fun a w5 ht => ?_
                    have e136 : a.tmps[136]?.getD undef = .int .u32 (e : Int) := ht.dep' 1 136 (by kernel_rfl) rfl
                    refine ⟨84, #[.int .u32 (e : Int), .int .u64 6], by go_simp, (C6.out w5).mono ?_⟩
                    rintro e w' ⟨rfl, hb⟩
                    exact ⟨_, rfl, hb, rfl⟩
                  · refine stepOk_value rfl fun a w5 ht => ?_
                    have e15 : a.tmps[15]?.getD undef = .int .u32 (e : Int) := ht.old' 15 (.int .u32 (e : Int)) (by kernel_rfl) rfl
                    exact ⟨.int .u32 (e : Int), w5, by go_simp, Below.refl _ _, rfl⟩
                  · refine stepOk_call rfl fun a w5 ht => ?_
                    have e138 : a.tmps[138]?.getD undef = .int .u32 (e : Int) := ht.dep' 3 138 (by kernel_rfl) rfl
                    refine ⟨84, #[.int .u32 (e : Int), .int .u64 11], by go_simp, (C11.out w5).mono ?_⟩
                    rintro e w' ⟨rfl, hb⟩
                    exact ⟨_, rfl, hb, rfl⟩
                  · refine stepOk_value rfl fun a w5 ht => ?_
                    have e137 : a.tmps[137]?.getD undef = .int .u32 ((Sha.rotr e 6 : Nat) : Int) := ht.dep' 2 137 (by kernel_rfl) rfl
                    have e139 : a.tmps[139]?.getD undef = .int .u32 ((Sha.rotr e 11 : Nat) : Int) := ht.dep' 4 139 (by kernel_rfl) rfl
                    exact ⟨.int .u32 (bits BinOp.xor IntKind.u32 ((Sha.rotr e 6 : Nat) : Int) ((Sha.rotr e 11 : Nat) : Int)), w5, by go_simp, Below.refl _ _, rfl⟩
                  · refine stepOk_value rfl fun a w5 ht => ?_
                    have e15 : a.tmps[15]?.getD undef = .int .u32 (e : Int) := ht.old' 15 (.int .u32 (e : Int)) (by kernel_rfl) rfl
                    exact ⟨.int .u32 (e : Int), w5, by go_simp, Below.refl _ _, rfl⟩
                  · refine stepOk_call rfl fun a w5 ht => ?_
                    have e141 : a.tmps[141]?.getD undef = .int .u32 (e : Int) := ht.dep' 6 141 (by kernel_rfl) rfl
                    refine ⟨84, #[.int .u32 (e : Int), .int .u64 25], by go_simp, (C25.out w5).mono ?_⟩
                    rintro e w' ⟨rfl, hb⟩
                    exact ⟨_, rfl, hb, rfl⟩
                  · refine stepOk_value rfl fun a w5 ht => ?_
                    have e140 : a.tmps[140]?.getD undef = .int .u32 (bits BinOp.xor IntKind.u32 ((Sha.rotr e 6 : Nat) : Int) ((Sha.rotr e 11 : Nat) : Int)) := ht.dep' 5 140 (by kernel_rfl) rfl
                    have e142 : a.tmps[142]?.getD undef = .int .u32 ((Sha.rotr e 25 : Nat) : Int) := ht.dep' 7 142 (by kernel_rfl) rfl
                    exact ⟨.int .u32 (b1 : Int), w5, by go_simp, Below.refl _ _, rfl⟩
                  · refine stepOk_value rfl fun a w5 ht => ?_
                    have e135 : a.tmps[135]?.getD undef = Value.int .u32 (p8 : Int) := ht.dep' 0 135 (by kernel_rfl) rfl
                    have e143 : a.tmps[143]?.getD undef = .int .u32 (b1 : Int) := ht.dep' 8 143 (by kernel_rfl) rfl
                    exact ⟨.int .u32 (s1 : Int), w5, by go_simp, Below.refl _ _, rfl⟩
                  · refine stepOk_value rfl fun a w5 ht => ?_
                    have e15 : a.tmps[15]?.getD undef = .int .u32 (e : Int) := ht.old' 15 (.int .u32 (e : Int)) (by kernel_rfl) rfl
                    exact ⟨.int .u32 (e : Int), w5, by go_simp, Below.refl _ _, rfl⟩
                  · refine stepOk_value rfl fun a w5 ht => ?_
                    have e16 : a.tmps[16]?.getD undef = .int .u32 (f : Int) := ht.old' 16 (.int .u32 (f : Int)) (by kernel_rfl) rfl
                    exact ⟨.int .u32 (f : Int), w5, by go_simp, Below.refl _ _, rfl⟩
                  · refine stepOk_value rfl fun a w5 ht => ?_
                    have e145 : a.tmps[145]?.getD undef = .int .u32 (e : Int) := ht.dep' 10 145 (by kernel_rfl) rfl
                    have e146 : a.tmps[146]?.getD undef = .int .u32 (f : Int) := ht.dep' 11 146 (by kernel_rfl) rfl
                    exact ⟨.int .u32 (ef : Int), w5, by go_simp, Below.refl _ _, rfl⟩
                  · refine stepOk_value rfl fun a w5 ht => ?_
                    have e15 : a.tmps[15]?.getD undef = .int .u32 (e : Int) := ht.old' 15 (.int .u32 (e : Int)) (by kernel_rfl) rfl
                    exact ⟨.int .u32 (e : Int), w5, by go_simp, Below.refl _ _, rfl⟩
                  · refine stepOk_value rfl fun a w5 ht => ?_
                    have e148 : a.tmps[148]?.getD undef = .int .u32 (e : Int) := ht.dep' 13 148 (by kernel_rfl) rfl
                    exact ⟨.int .u32 (ne : Int), w5, by go_simp, Below.refl _ _, rfl⟩
                  · refine stepOk_value rfl fun a w5 ht => ?_
                    have e17 : a.tmps[17]?.getD undef = .int .u32 (g : Int) := ht.old' 17 (.int .u32 (g : Int)) (by kernel_rfl) rfl
                    exact ⟨.int .u32 (g : Int), w5, by go_simp, Below.refl _ _, rfl⟩
                  · refine stepOk_value rfl fun a w5 ht => ?_
                    have e149 : a.tmps[149]?.getD undef = .int .u32 (ne : Int) := ht.dep' 14 149 (by kernel_rfl) rfl
                    have e150 : a.tmps[150]?.getD undef = .int .u32 (g : Int) := ht.dep' 15 150 (by kernel_rfl) rfl
                    exact ⟨.int .u32 (ng : Int), w5, by go_simp, Below.refl _ _, rfl⟩
                  · refine stepOk_value rfl fun a w5 ht => ?_
                    have e147 : a.tmps[147]?.getD undef = .int .u32 (ef : Int) := ht.dep' 12 147 (by kernel_rfl) rfl
                    have e151 : a.tmps[151]?.getD undef = .int .u32 (ng : Int) := ht.dep' 16 151 (by kernel_rfl) rfl
                    exact ⟨.int .u32 (cx : Int), w5, by go_simp, Below.refl _ _, rfl⟩
                  · refine stepOk_value rfl fun a w5 ht => ?_
                    have e144 : a.tmps[144]?.getD undef = .int .u32 (s1 : Int) := ht.dep' 9 144 (by kernel_rfl) rfl
                    have e152 : a.tmps[152]?.getD undef = .int .u32 (cx : Int) := ht.dep' 17 152 (by kernel_rfl) rfl
                    exact ⟨.int .u32 (s2 : Int), w5, by go_simp, Below.refl _ _, rfl⟩
                  · refine stepOk_value rfl fun a w5 ht => ?_
                    have e19 : a.tmps[19]?.getD undef = .int .i64 (n : Int) := ht.old' 19 (.int .i64 (n : Int)) (by kernel_rfl) rfl
                    exact ⟨.int .i64 (n : Int), w5, by go_simp, Below.refl _ _, rfl⟩
                  · refine stepOk_value rfl fun a w5 ht => ?_
                    have e6 : a.tmps[6]?.getD undef = .pointer (some ⟨C, 0, none⟩) := ht.old' 6 (.pointer (some ⟨C, 0, none⟩)) (by kernel_rfl) rfl
                    have e154 : a.tmps[154]?.getD undef = .int .i64 (n : Int) := ht.dep' 19 154 (by kernel_rfl) rfl
                    exact ⟨.pointer (some ⟨C, n, none⟩), w5, by go_simp, Below.refl _ _, rfl⟩
                  · refine stepOk_value rfl fun a w5 ht => ?_
                    have e155 : a.tmps[155]?.getD undef = .pointer (some ⟨C, n, none⟩) := ht.dep' 20 155 (by kernel_rfl) rfl
                    have hc := (ht.below.cell (p := ⟨C, n, none⟩) (World.block_lt_of_cell? _ _ hwk)).trans hwk
                    exact ⟨.int .u32 (kk : Int), w5, by go_simp, Below.refl _ _, rfl⟩
                  · refine stepOk_value rfl fun a w5 ht => ?_
                    have e153 : a.tmps[153]?.getD undef = .int .u32 (s2 : Int) := ht.dep' 18 153 (by kernel_rfl) rfl
                    have e156 : a.tmps[156]?.getD undef = .int .u32 (kk : Int) := ht.dep' 21 156 (by kernel_rfl) rfl
                    exact ⟨.int .u32 (s3 : Int), w5, by go_simp, Below.refl _ _, rfl⟩
                  · refine stepOk_value rfl fun a w5 ht => ?_
                    have e19 : a.tmps[19]?.getD undef = .int .i64 (n : Int) := ht.old' 19 (.int .i64 (n : Int)) (by kernel_rfl) rfl
                    exact ⟨.int .i64 (n : Int), w5, by go_simp, Below.refl _ _, rfl⟩
                  · refine stepOk_value rfl fun a w5 ht => ?_
                    have e5 : a.tmps[5]?.getD undef = .pointer (some ⟨B + 1 + 1, 0, none⟩) := ht.old' 5 (.pointer (some ⟨B + 1 + 1, 0, none⟩)) (by kernel_rfl) rfl
                    have e158 : a.tmps[158]?.getD undef = .int .i64 (n : Int) := ht.dep' 23 158 (by kernel_rfl) rfl
                    exact ⟨.pointer (some ⟨B + 1 + 1, n, none⟩), w5, by go_simp, Below.refl _ _, rfl⟩
                  · refine stepOk_value rfl fun a w5 ht => ?_
                    have e159 : a.tmps[159]?.getD undef = .pointer (some ⟨B + 1 + 1, n, none⟩) := ht.dep' 24 159 (by kernel_rfl) rfl
                    have hc := (ht.below.cell (p := ⟨B + 1 + 1, n, none⟩) (World.block_lt_of_cell? _ _ hwl)).trans hwl
                    exact ⟨.int .u32 (ww : Int), w5, by go_simp, Below.refl _ _, rfl⟩
                  · refine stepOk_value rfl fun a w5 ht => ?_
                    have e157 : a.tmps[157]?.getD undef = .int .u32 (s3 : Int) := ht.dep' 22 157 (by kernel_rfl) rfl
                    have e160 : a.tmps[160]?.getD undef = .int .u32 (ww : Int) := ht.dep' 25 160 (by kernel_rfl) rfl
                    exact ⟨.int .u32 (T : Int), w5, by go_simp, Below.refl _ _, rfl⟩
                  · refine stepOk_value rfl fun a w5 ht => ?_
                    have e161 : a.tmps[161]?.getD undef = .int .u32 (T : Int) := ht.dep' 26 161 (by kernel_rfl) rfl
                    exact ⟨.int .u32 (T : Int), w5, by go_simp, Below.refl _ _, rfl⟩
                case hd =>
                  intro vs w9 hl hb9 hvs
                  have hl : vs.length = 28 := hl
                  obtain ⟨v0, r0, rfl, l0⟩ := uncons vs hl
                  obtain ⟨v1, r1, rfl, l1⟩ := uncons r0 l0
                  obtain ⟨v2, r2, rfl, l2⟩ := uncons r1 l1
                  obtain ⟨v3, r3, rfl, l3⟩ := uncons r2 l2
                  obtain ⟨v4, r4, rfl, l4⟩ := uncons r3 l3
                  obtain ⟨v5, r5, rfl, l5⟩ := uncons r4 l4
                  obtain ⟨v6, r6, rfl, l6⟩ := uncons r5 l5
                  obtain ⟨v7, r7, rfl, l7⟩ := uncons r6 l6
                  obtain ⟨v8, r8, rfl, l8⟩ := uncons r7 l7
                  obtain ⟨v9, r9, rfl, l9⟩ := uncons r8 l8
                  obtain ⟨v10, r10, rfl, l10⟩ := uncons r9 l9
                  obtain ⟨v11, r11, rfl, l11⟩ := uncons r10 l10
                  obtain ⟨v12, r12, rfl, l12⟩ := uncons r11 l11
                  obtain ⟨v13, r13, rfl, l13⟩ := uncons r12 l12
                  obtain ⟨v14, r14, rfl, l14⟩ := uncons r13 l13
                  obtain ⟨v15, r15, rfl, l15⟩ := uncons r14 l14
                  obtain ⟨v16, r16, rfl, l16⟩ := uncons r15 l15
                  obtain ⟨v17, r17, rfl, l17⟩ := uncons r16 l16
                  obtain ⟨v18, r18, rfl, l18⟩ := uncons r17 l17
                  obtain ⟨v19, r19, rfl, l19⟩ := uncons r18 l18
                  obtain ⟨v20, r20, rfl, l20⟩ := uncons r19 l19
                  obtain ⟨v21, r21, rfl, l21⟩ := uncons r20 l20
                  obtain ⟨v22, r22, rfl, l22⟩ := uncons r21 l21
                  obtain ⟨v23, r23, rfl, l23⟩ := uncons r22 l22
                  obtain ⟨v24, r24, rfl, l24⟩ := uncons r23 l23
                  obtain ⟨v25, r25, rfl, l25⟩ := uncons r24 l24
                  obtain ⟨v26, r26, rfl, l26⟩ := uncons r25 l25
                  obtain ⟨v27, r27, rfl, l27⟩ := uncons r26 l26
                  obtain rfl := List.eq_nil_of_length_eq_zero l27
                  have h27 : v27 = .int .u32 (T : Int) := hvs 27 (by decide)
                  subst h27
                  clear hvs
                  simp only [puts, List.map, go_sem, List.setIfInBounds_toArray, List.set_cons_succ, List.set_cons_zero]
                  have hb5 : Below wr.heap.size wr w9 := hb9
                  have HC9 := Lib.hid (HC.out.below hb5)
                  have HO9 : Hid ((Words w9 B [va, vb, vc, vd, ve, vf, vg, vh] ∧ Words w9 (B + 1) (List.replicate 8 0) ∧ Words w9 C Sha.K) ∧ Below B w w9) := ⟨⟨HO.out.1.1.below hb5, HO.out.1.2.1.below hb5, HO.out.1.2.2.below hb5⟩, HO.out.2.trans (hb5.mono (Nat.le_of_lt HO.out.1.1.lt))⟩
                  clear hb5 hb9 HC HO hwk hwl C6 C11 C25 hb1 hne hef hng hcx g1 g2 g3 g4
                  go_wp2_with fail
                  refine (C2.out _).mono ?_
                  rintro e' w10 ⟨rfl, hb10⟩
                  have HC10 := Lib.hid (HC9.out.below hb10)
                  have HO10 : Hid ((Words w10 B [va, vb, vc, vd, ve, vf, vg, vh] ∧ Words w10 (B + 1) (List.replicate 8 0) ∧ Words w10 C Sha.K) ∧ Below B w w10) := ⟨⟨HO9.out.1.1.below hb10, HO9.out.1.2.1.below hb10, HO9.out.1.2.2.below hb10⟩, HO9.out.2.trans (hb10.mono (Nat.le_of_lt HO9.out.1.1.lt))⟩
                  clear hb10 HC9 HO9
                  go_wp2_with fail
                  refine (C13.out _).mono ?_
                  rintro e' w11 ⟨rfl, hb11⟩
                  have HC11 := Lib.hid (HC10.out.below hb11)
                  have HO11 : Hid ((Words w11 B [va, vb, vc, vd, ve, vf, vg, vh] ∧ Words w11 (B + 1) (List.replicate 8 0) ∧ Words w11 C Sha.K) ∧ Below B w w11) := ⟨⟨HO10.out.1.1.below hb11, HO10.out.1.2.1.below hb11, HO10.out.1.2.2.below hb11⟩, HO10.out.2.trans (hb11.mono (Nat.le_of_lt HO10.out.1.1.lt))⟩
                  clear hb11 HC10 HO10
                  go_wp2_with fail
                  refine (C22.out _).mono ?_
                  rintro e' w12 ⟨rfl, hb12⟩
                  have HC12 := Lib.hid (HC11.out.below hb12)
                  have HO12 : Hid ((Words w12 B [va, vb, vc, vd, ve, vf, vg, vh] ∧ Words w12 (B + 1) (List.replicate 8 0) ∧ Words w12 C Sha.K) ∧ Below B w w12) := ⟨⟨HO11.out.1.1.below hb12, HO11.out.1.2.1.below hb12, HO11.out.1.2.2.below hb12⟩, HO11.out.2.trans (hb12.mono (Nat.le_of_lt HO11.out.1.1.lt))⟩
                  clear hb12 HC11 HO11
                  go_wp2_with fail
                  go_roundw
                  case rel => exact ⟨n + 1, A2, a, b, c, E2, e, f, g, by omega, by go_num, rfl, rfl, rfl, rfl, rfl, rfl, rfl, rfl, HST, HC12, HO12⟩
                  case measure => simp [intOf]; omega
--}R3
              · obtain rfl : n = 64 := by omega
                rw [HRN.out] at HFIN
                have hz0 := add2_wrap va a
                have hz1 := add2_wrap vb b
                have hz2 := add2_wrap vc c
                have hz3 := add2_wrap vd d
                have hz4 := add2_wrap ve e
                have hz5 := add2_wrap vf f
                have hz6 := add2_wrap vg g
                have hz7 := add2_wrap vh p8
                obtain ⟨x0, x1, x2, x3, x4, x5, x6, x7, hx⟩ : ∃ x0 x1 x2 x3 x4 x5 x6 x7, x0 = (va + a) % 4294967296 ∧ x1 = (vb + b) % 4294967296 ∧ x2 = (vc + c) % 4294967296 ∧ x3 = (vd + d) % 4294967296 ∧ x4 = (ve + e) % 4294967296 ∧ x5 = (vf + f) % 4294967296 ∧ x6 = (vg + g) % 4294967296 ∧ x7 = (vh + p8) % 4294967296 := ⟨_, _, _, _, _, _, _, _, rfl, rfl, rfl, rfl, rfl, rfl, rfl, rfl⟩
                obtain ⟨y0, y1, y2, y3, y4, y5, y6, y7⟩ := hx
                have HXX : Hid (mx.list = [x0, x1, x2, x3, x4, x5, x6, x7]) := by
                  show _ = _
                  rw [HFIN.out, y0, y1, y2, y3, y4, y5, y6, y7]
                  simp only [Sha.St.add, Sha.St.list, Nat.add_comm]
                rw [← y0] at hz0
                rw [← y1] at hz1
                rw [← y2] at hz2
                rw [← y3] at hz3
                rw [← y4] at hz4
                rw [← y5] at hz5
                rw [← y6] at hz6
                rw [← y7] at hz7
                clear y0 y1 y2 y3 y4 y5 y6 y7 HFIN HRN
                have hv0 : wr.cell? ⟨B, 0, none⟩ = some (.int .u32 (va : Int)) := HO.out.1.1.cell 0 (by show 0 < 8; omega)
                have hv1 : wr.cell? ⟨B, 1, none⟩ = some (.int .u32 (vb : Int)) := HO.out.1.1.cell 1 (by show 1 < 8; omega)
                have hv2 : wr.cell? ⟨B, 2, none⟩ = some (.int .u32 (vc : Int)) := HO.out.1.1.cell 2 (by show 2 < 8; omega)
                have hv3 : wr.cell? ⟨B, 3, none⟩ = some (.int .u32 (vd : Int)) := HO.out.1.1.cell 3 (by show 3 < 8; omega)
                have hv4 : wr.cell? ⟨B, 4, none⟩ = some (.int .u32 (ve : Int)) := HO.out.1.1.cell 4 (by show 4 < 8; omega)
                have hv5 : wr.cell? ⟨B, 5, none⟩ = some (.int .u32 (vf : Int)) := HO.out.1.1.cell 5 (by show 5 < 8; omega)
                have hv6 : wr.cell? ⟨B, 6, none⟩ = some (.int .u32 (vg : Int)) := HO.out.1.1.cell 6 (by show 6 < 8; omega)
                have hv7 : wr.cell? ⟨B, 7, none⟩ = some (.int .u32 (vh : Int)) := HO.out.1.1.cell 7 (by show 7 < 8; omega)
                obtain ⟨tR, hgR⟩ := HO.out.1.2.1
                have HGR := Lib.hid hgR
                clear hgR HC
                go_wp2_with (refine wpList_store_row rfl 89 (.tmp 4) (.tmp 226) rfl (B + 1) (cel [x0, x1, x2, x3, x4, x5, x6, x7]) rfl rfl tR (cel (List.replicate 8 0)) HGR.out (by kernel_rfl) (by kernel_rfl) (cel_one _) ?_)
                exact bodyPost_ret (results_cell_row rfl _ _ (B + 1) tR (cel [x0, x1, x2, x3, x4, x5, x6, x7]) (0, 0) _ rfl (setRow_heap _ _ _ _ _ _ HGR.out) Try.underlying89 rfl (by kernel_rfl)) rfl ⟨congrArg (fun z => Ending.returned (.agg (cel z))) HXX.out.symm, HBW.out ▸ HO.out.2.trans (below_setRow B _ (B + 1) _ (by omega))⟩
end Go.Proofs.Ytbajgpbekanodaa
