/- The walk over digest's Clash where another leaf is proved. -/
import Derived.Test.YtbajgpbekanodaaDigClash
import Derived.Test.YtbajgpbekanodaaDigPartsW
import Derived.Test.YtbajgpbekanodaaDigStEq
import Derived.Test.YtbajgpbekanodaaRegionD
namespace Go.Proofs.Ytbajgpbekanodaa
open Go.RowKit

def ClashOut (H : ByteArray → ByteArray) (e : Ending) : Prop := ∃ a b, e = .returned (.tuple #[.string a, .string b, .bool true]) ∧ a ≠ b ∧ H a = H b ∧ a.size ≤ 1073741825 ∧ b.size ≤ 1073741825
set_option maxRecDepth 100000 in
set_option maxHeartbeats 4000000 in
theorem clash_found {H : ByteArray → ByteArray} {ST : ByteArray → Sha.St} (hst : ∀ a b, H a = H b → ST a = ST b) (CST : Hid (∀ s w, s.size ≤ 1099511627776 → Calls Try.prog 53 #[.string s] w fun e w' => e = .returned (.agg (cel (ST s).list)) ∧ Below w.heap.size w w'))
    (b off n cap i L : Nat) (s leaf rt : ByteArray) (ps A B : List ByteArray) (ap : Option Addr) (m cp : Nat) (w : World) (hin : (i : Int) < (n : Int)) (hbw : b < w.heap.size) (hcell : w.cell? ⟨b, off + i, none⟩ = some (.string s)) (hne : (s.toList == leaf.toList) = false)
    (hps : Hid (∀ s ∈ ps, s.size ≤ maxLen)) (hL : (L : Int) ≤ 1000) (hA : Hid (A.length = L + 1)) (hB : Hid (B.length = L + 1)) (hAs : Hid (∀ s ∈ A, s.size ≤ 1073741825)) (hBs : Hid (∀ s ∈ B, s.size ≤ 1073741825))
    (h0 : Hid (A.getD 0 ByteArray.empty ≠ B.getD 0 ByteArray.empty))
    (hlev : Hid (∀ j, j ≤ L → (j < L → A.getD (j + 1) ByteArray.empty = B.getD (j + 1) ByteArray.empty) → H (A.getD j ByteArray.empty) = H (B.getD j ByteArray.empty)))
    (C1 : Hid (Calls Try.prog 27 #[.int .i64 (i : Int), .slice (some ⟨b, off, none⟩) n cap] w (OwnOut w ps (.int .i64 0))))
    (C2 : Hid (∀ w', Below w.heap.size w w' → Calls Try.prog 19 #[.slice (some ⟨b, off, none⟩) n cap] w' fun e w'' => e = .returned (.string rt) ∧ Below w'.heap.size w' w''))
    (C3 : Hid (∀ w', Below w.heap.size w w' → Calls Try.prog 18 #[.string rt, .int .i64 (n : Int), .int .i64 (i : Int), .string leaf, .slice ap m cp] w' fun e w'' => e = .returned (.bool true) ∧ Below w'.heap.size w' w''))
    (C4 : Hid (∀ aq c w', StrsFit ps c → StrsAt w' aq ps → Calls Try.prog 52 #[.int .i64 (n : Int), .int .i64 (i : Int), .string s, .slice aq ps.length c] w' (OwnOut w' A (.bool true))))
    (C5 : Hid (∀ w', Below w.heap.size w w' → Calls Try.prog 52 #[.int .i64 (n : Int), .int .i64 (i : Int), .string leaf, .slice ap m cp] w' (OwnOut w' B (.bool true)))) :
    Calls Try.prog 17 #[.int .i64 (i : Int), .string leaf, .slice ap m cp, .slice (some ⟨b, off, none⟩) n cap] w fun e w' => ClashOut H e ∧ Below w.heap.size w w' := by
  have hi0 : (0 : Int) ≤ (i : Int) := Int.natCast_nonneg _
  have HST := Lib.hid hst
  clear hst
  obtain ⟨q, hq⟩ : ∃ q, ps.length = q := ⟨_, rfl⟩
  have HQ := Lib.hid hq
  rw [hq] at C4
  clear hq
  go_enter Try.func17, Try.ntmps17
  go_wp2_with fail
  refine C1.out.mono ?_
  rintro e w2 ho
  obtain ⟨aq, c, rfl, hat, hfi, hb2⟩ := ho.strs hps.out
  have HB2 := Lib.hid hb2
  have HAT := Lib.hid hat
  have HFI := Lib.hid hfi
  have hcell2 := (hb2.cell (p := ⟨b, off + i, none⟩) hbw).trans hcell
  rw [HQ.out]
  clear ho hb2 hat hfi C1 hcell
  go_wp2_with fail
  refine (C2.out _ HB2.out).mono ?_
  rintro e w3 ⟨rfl, hb3⟩
  have HB3 := Lib.hid (HB2.out.trans (hb3.mono HB2.out.size))
  have K3 := Lib.hid hb3
  clear hb3
  go_wp2_with fail
  refine (C3.out _ HB3.out).mono ?_
  rintro e w4 ⟨rfl, hb4⟩
  have HB4 := Lib.hid (HB3.out.trans (hb4.mono HB3.out.size))
  have K4 := Lib.hid (K3.out.trans (hb4.mono K3.out.size))
  have hcell4 := (K4.out.cell (p := ⟨b, off + i, none⟩) (Nat.lt_of_lt_of_le hbw HB2.out.size)).trans hcell2
  clear hb4 K3 HB3 C2 C3 hcell2
  go_wp2_with fail
  refine (C4.out _ _ _ HFI.out (HAT.out.kept K4.out (Nat.le_refl _))).mono ?_
  rintro e w5 ho
  obtain ⟨aA, cA, rfl, hatA, hfiA, hb5⟩ := ho.strs (fun s hs => by have := hAs.out s hs; unfold maxLen; omega)
  have HB5 := Lib.hid (HB4.out.trans (hb5.mono HB4.out.size))
  have HATA := Lib.hid hatA
  rw [hA.out]
  clear ho hatA hfiA hb5 C4 HB4 K4 HAT HFI hcell4
  go_wp2_with fail
  refine (C5.out _ HB5.out).mono ?_
  rintro e w6 ho
  obtain ⟨aB, cB, rfl, hatB, hfiB, hb6⟩ := ho.strs (fun s hs => by have := hBs.out s hs; unfold maxLen; omega)
  have HB6 := Lib.hid (HB5.out.trans (hb6.mono HB5.out.size))
  have HATB := Lib.hid hatB
  have HATA6 := Lib.hid (HATA.out.kept hb6 (Nat.le_refl _))
  rw [hB.out]
  clear ho hatB hfiB hb6 C5 HB5 HATA
  go_wp2_with fail
  go_loopw [17] (fun j wr => ∃ k : Nat, (k : Int) ≤ (L : Int) ∧ j = .int .i64 (k : Int) ∧ Hid (k < L → A.getD (k + 1) ByteArray.empty = B.getD (k + 1) ByteArray.empty) ∧ Hid (Below w6.heap.size w6 wr)) (fun j _ => (intOf j).toNat)
  case atStart => exact ⟨L, by omega, by go_num, fun h => absurd h (Nat.lt_irrefl _), Below.refl _ _⟩
  case round =>
    obtain ⟨k, hk, rfl, HUP, HBE⟩ := hrel
    have HA6 := Lib.hid (HATA6.out.kept HBE.out (Nat.le_refl _))
    have HB6' := Lib.hid (HATB.out.kept HBE.out (Nat.le_refl _))
    obtain ⟨bA, oA, rfl, hbA, hcA⟩ := HA6.out k (by rw [hA.out]; omega)
    obtain ⟨bB, oB, rfl, hbB, hcB⟩ := HB6'.out k (by rw [hB.out]; omega)
    have hk0 : (0 : Int) ≤ (k : Int) := Int.natCast_nonneg _
    have hk1 : (k : Int) < (L : Int) + 1 := by omega
    have HLV := Lib.hid (hlev.out k (by omega) HUP.out)
    have HZ : Hid (k = 0 → A.getD k ByteArray.empty ≠ B.getD k ByteArray.empty) := fun h => by subst h; exact h0.out
    have HNX : Hid (∀ k', k = k' + 1 → A.getD k ByteArray.empty = B.getD k ByteArray.empty → (k' < L → A.getD (k' + 1) ByteArray.empty = B.getD (k' + 1) ByteArray.empty)) := fun k' h1 h2 _ => by rw [← h1]; exact h2
    have HSA : Hid ((A.getD k ByteArray.empty).size ≤ 1073741825) := hAs.out _ (by have := hA.out; simp [List.getD, show k < A.length by omega])
    have HSB : Hid ((B.getD k ByteArray.empty).size ≤ 1073741825) := hBs.out _ (by have := hB.out; simp [List.getD, show k < B.length by omega])
    generalize A.getD k ByteArray.empty = x at *
    generalize B.getD k ByteArray.empty = y at *
    by_cases hxy : x = y
    · subst hxy
      obtain ⟨k', rfl⟩ : ∃ k', k = k' + 1 := ⟨k - 1, by have h1 : k ≠ 0 := fun h => HZ.out h rfl; omega⟩
      have HN := Lib.hid (HNX.out k' rfl rfl)
      clear HZ HNX HLV HUP
      go_wp2_with fail
      go_quiet (fail)
      go_wp2_with fail
      go_roundw
      case rel => exact ⟨k', by omega, by go_num, HN, below_drewN HBE.out _⟩
      case measure => simp [intOf]
    · have hb : (x.toList == y.toList) = false := by rw [bytes_beq]; exact decide_eq_false hxy
      have HXY := Lib.hid hxy
      have CA := Lib.hid (fun w => CST.out x w (by have := HSA.out; omega))
      have CB := Lib.hid (fun w => CST.out y w (by have := HSB.out; omega))
      have e := HST.out x y HLV.out
      rw [← e] at CB
      generalize ST x = sv at *
      clear hxy HZ HNX HUP e
      go_wp2_with fail
      go_quiet (fail)
      go_wp2_with fail
      have HBd : Hid (Below w6.heap.size w6 (wr.drewN nq)) := below_drewN HBE.out nq
      have hdA : (wr.drewN nq).cell? ⟨bA, oA + k, none⟩ = some (.string x) := hcA
      have hdB : (wr.drewN nq).cell? ⟨bB, oB + k, none⟩ = some (.string y) := hcB
      clear HBE HA6 HB6' hcA hcB hbA hbB
      generalize wr.drewN nq = wd at *
      have heq := equal_words sv
      have hgd := guard_words
      refine wp_region_puts2 (R := fun i w' v => v = [Value.slice (some ⟨bA, oA, none⟩) (L + 1) cA, .int .i64 (k : Int), .pointer (some ⟨bA, oA + k, none⟩), Value.string x, .slice (some ⟨bB, oB, none⟩) (L + 1) cB, .int .i64 (k : Int), .pointer (some ⟨bB, oB + k, none⟩), Value.string y, .slice (some ⟨bA, oA, none⟩) (L + 1) cA, .int .i64 (k : Int), .pointer (some ⟨bA, oA + k, none⟩), Value.string x, Value.agg (cel sv.list), .slice (some ⟨bB, oB, none⟩) (L + 1) cB, .int .i64 (k : Int), .pointer (some ⟨bB, oB + k, none⟩), Value.string y, Value.agg (cel sv.list), .bool true, Value.string x, Value.string y, .bool true].getD i undef)
        (by kernel_rfl) (by kernel_rfl) (by kernel_rfl) ?hRR (by kernel_rfl) (steps_of ?hs) ?hd
      case hRR =>
        intro i w1 w2 v hb hv
        exact hv
      case hs =>
        refine ⟨?_, ?_, ?_, ?_, ?_, ?_, ?_, ?_, ?_, ?_, ?_, ?_, ?_, ?_, ?_, ?_, ?_, ?_, ?_, ?_, ?_, ?_, trivial⟩
        · refine stepOk_value rfl fun a w5 ht => ?_
          have e13 : a.tmps[13]?.getD undef = .slice (some ⟨bA, oA, none⟩) (L + 1) cA := ht.old' 13 (.slice (some ⟨bA, oA, none⟩) (L + 1) cA) (by kernel_rfl) rfl
          exact ⟨Value.slice (some ⟨bA, oA, none⟩) (L + 1) cA, w5, by go_simp, Below.refl _ _, rfl⟩
        · refine stepOk_value rfl fun a w5 ht => ?_
          have e17 : a.tmps[17]?.getD undef = .int .i64 (k : Int) := ht.old' 17 (.int .i64 (k : Int)) (by kernel_rfl) rfl
          exact ⟨.int .i64 (k : Int), w5, by go_simp, Below.refl _ _, rfl⟩
        · refine stepOk_value rfl fun a w5 ht => ?_
          have e82 : a.tmps[82]?.getD undef = Value.slice (some ⟨bA, oA, none⟩) (L + 1) cA := ht.dep' 0 82 (by kernel_rfl) rfl
          have e83 : a.tmps[83]?.getD undef = .int .i64 (k : Int) := ht.dep' 1 83 (by kernel_rfl) rfl
          exact ⟨.pointer (some ⟨bA, oA + k, none⟩), w5, by go_simp, Below.refl _ _, rfl⟩
        · refine stepOk_value rfl fun a w5 ht => ?_
          have e84 : a.tmps[84]?.getD undef = .pointer (some ⟨bA, oA + k, none⟩) := ht.dep' 2 84 (by kernel_rfl) rfl
          have hc := (ht.below.cell (p := ⟨bA, oA + k, none⟩) (World.block_lt_of_cell? _ _ hdA)).trans hdA
          exact ⟨Value.string x, w5, by go_simp, Below.refl _ _, rfl⟩
        · refine stepOk_value rfl fun a w5 ht => ?_
          have e15 : a.tmps[15]?.getD undef = .slice (some ⟨bB, oB, none⟩) (L + 1) cB := ht.old' 15 (.slice (some ⟨bB, oB, none⟩) (L + 1) cB) (by kernel_rfl) rfl
          exact ⟨.slice (some ⟨bB, oB, none⟩) (L + 1) cB, w5, by go_simp, Below.refl _ _, rfl⟩
        · refine stepOk_value rfl fun a w5 ht => ?_
          have e17 : a.tmps[17]?.getD undef = .int .i64 (k : Int) := ht.old' 17 (.int .i64 (k : Int)) (by kernel_rfl) rfl
          exact ⟨.int .i64 (k : Int), w5, by go_simp, Below.refl _ _, rfl⟩
        · refine stepOk_value rfl fun a w5 ht => ?_
          have e86 : a.tmps[86]?.getD undef = .slice (some ⟨bB, oB, none⟩) (L + 1) cB := ht.dep' 4 86 (by kernel_rfl) rfl
          have e87 : a.tmps[87]?.getD undef = .int .i64 (k : Int) := ht.dep' 5 87 (by kernel_rfl) rfl
          exact ⟨.pointer (some ⟨bB, oB + k, none⟩), w5, by go_simp, Below.refl _ _, rfl⟩
        · refine stepOk_value rfl fun a w5 ht => ?_
          have e88 : a.tmps[88]?.getD undef = .pointer (some ⟨bB, oB + k, none⟩) := ht.dep' 6 88 (by kernel_rfl) rfl
          have hc := (ht.below.cell (p := ⟨bB, oB + k, none⟩) (World.block_lt_of_cell? _ _ hdB)).trans hdB
          exact ⟨Value.string y, w5, by go_simp, Below.refl _ _, rfl⟩
        · refine stepOk_value rfl fun a w5 ht => ?_
          have e13 : a.tmps[13]?.getD undef = .slice (some ⟨bA, oA, none⟩) (L + 1) cA := ht.old' 13 (.slice (some ⟨bA, oA, none⟩) (L + 1) cA) (by kernel_rfl) rfl
          exact ⟨.slice (some ⟨bA, oA, none⟩) (L + 1) cA, w5, by go_simp, Below.refl _ _, rfl⟩
        · refine stepOk_value rfl fun a w5 ht => ?_
          have e17 : a.tmps[17]?.getD undef = .int .i64 (k : Int) := ht.old' 17 (.int .i64 (k : Int)) (by kernel_rfl) rfl
          exact ⟨.int .i64 (k : Int), w5, by go_simp, Below.refl _ _, rfl⟩
        · refine stepOk_value rfl fun a w5 ht => ?_
          have e90 : a.tmps[90]?.getD undef = .slice (some ⟨bA, oA, none⟩) (L + 1) cA := ht.dep' 8 90 (by kernel_rfl) rfl
          have e91 : a.tmps[91]?.getD undef = .int .i64 (k : Int) := ht.dep' 9 91 (by kernel_rfl) rfl
          exact ⟨.pointer (some ⟨bA, oA + k, none⟩), w5, by go_simp, Below.refl _ _, rfl⟩
        · refine stepOk_value rfl fun a w5 ht => ?_
          have e92 : a.tmps[92]?.getD undef = .pointer (some ⟨bA, oA + k, none⟩) := ht.dep' 10 92 (by kernel_rfl) rfl
          have hc := (ht.below.cell (p := ⟨bA, oA + k, none⟩) (World.block_lt_of_cell? _ _ hdA)).trans hdA
          exact ⟨Value.string x, w5, by go_simp, Below.refl _ _, rfl⟩
        · refine stepOk_call rfl fun a w5 ht => ?_
          have e93 : a.tmps[93]?.getD undef = Value.string x := ht.dep' 11 93 (by kernel_rfl) rfl
          refine ⟨53, #[Value.string x], by go_simp, (CA.out w5).mono ?_⟩
          rintro e w' ⟨rfl, hb⟩
          exact ⟨_, rfl, hb, rfl⟩
        · refine stepOk_value rfl fun a w5 ht => ?_
          have e15 : a.tmps[15]?.getD undef = .slice (some ⟨bB, oB, none⟩) (L + 1) cB := ht.old' 15 (.slice (some ⟨bB, oB, none⟩) (L + 1) cB) (by kernel_rfl) rfl
          exact ⟨.slice (some ⟨bB, oB, none⟩) (L + 1) cB, w5, by go_simp, Below.refl _ _, rfl⟩
        · refine stepOk_value rfl fun a w5 ht => ?_
          have e17 : a.tmps[17]?.getD undef = .int .i64 (k : Int) := ht.old' 17 (.int .i64 (k : Int)) (by kernel_rfl) rfl
          exact ⟨.int .i64 (k : Int), w5, by go_simp, Below.refl _ _, rfl⟩
        · refine stepOk_value rfl fun a w5 ht => ?_
          have e95 : a.tmps[95]?.getD undef = .slice (some ⟨bB, oB, none⟩) (L + 1) cB := ht.dep' 13 95 (by kernel_rfl) rfl
          have e96 : a.tmps[96]?.getD undef = .int .i64 (k : Int) := ht.dep' 14 96 (by kernel_rfl) rfl
          exact ⟨.pointer (some ⟨bB, oB + k, none⟩), w5, by go_simp, Below.refl _ _, rfl⟩
        · refine stepOk_value rfl fun a w5 ht => ?_
          have e97 : a.tmps[97]?.getD undef = .pointer (some ⟨bB, oB + k, none⟩) := ht.dep' 15 97 (by kernel_rfl) rfl
          have hc := (ht.below.cell (p := ⟨bB, oB + k, none⟩) (World.block_lt_of_cell? _ _ hdB)).trans hdB
          exact ⟨Value.string y, w5, by go_simp, Below.refl _ _, rfl⟩
        · refine stepOk_call rfl fun a w5 ht => ?_
          have e98 : a.tmps[98]?.getD undef = Value.string y := ht.dep' 16 98 (by kernel_rfl) rfl
          refine ⟨53, #[Value.string y], by go_simp, (CB.out w5).mono ?_⟩
          rintro e w' ⟨rfl, hb⟩
          exact ⟨_, rfl, hb, rfl⟩
        · refine stepOk_value rfl fun a w5 ht => ?_
          have e94 : a.tmps[94]?.getD undef = Value.agg (cel sv.list) := ht.dep' 12 94 (by kernel_rfl) rfl
          have e99 : a.tmps[99]?.getD undef = Value.agg (cel sv.list) := ht.dep' 17 99 (by kernel_rfl) rfl
          exact ⟨.bool true, w5, by go_simp, Below.refl _ _, rfl⟩
        · refine stepOk_value rfl fun a w5 ht => ?_
          have e85 : a.tmps[85]?.getD undef = Value.string x := ht.dep' 3 85 (by kernel_rfl) rfl
          exact ⟨Value.string x, w5, by go_simp, Below.refl _ _, rfl⟩
        · refine stepOk_value rfl fun a w5 ht => ?_
          have e89 : a.tmps[89]?.getD undef = Value.string y := ht.dep' 7 89 (by kernel_rfl) rfl
          exact ⟨Value.string y, w5, by go_simp, Below.refl _ _, rfl⟩
        · refine stepOk_value rfl fun a w5 ht => ?_
          have e100 : a.tmps[100]?.getD undef = .bool true := ht.dep' 18 100 (by kernel_rfl) rfl
          exact ⟨.bool true, w5, by go_simp, Below.refl _ _, rfl⟩
      case hd =>
        intro vs w8 hl hb8 hvs
        have hl : vs.length = 22 := hl
        obtain ⟨v0, r0, rfl, l0⟩ := uncons vs hl
        obtain ⟨v1, r1, rfl, l1⟩ := uncons r0 l0
        obtain ⟨v2, r2, rfl, l2⟩ := uncons r1 l1
        obtain ⟨v3, r3, rfl, l3⟩ := uncons r2 l2
        obtain ⟨v4, r4, rfl, l4⟩ := uncons r3 l3
        obtain ⟨v5, r5, rfl, l5⟩ := uncons r4 l4
        obtain ⟨v6, r6, rfl, l6⟩ := uncons r5 l5
        obtain ⟨v7, r7, rfl, l7⟩ := uncons r6 l6
        obtain ⟨v8, r8, rfl, l8⟩ := uncons r7 l7
        obtain ⟨v9, r9, rfl, l9⟩ := uncons r8 l8
        obtain ⟨v10, r10, rfl, l10⟩ := uncons r9 l9
        obtain ⟨v11, r11, rfl, l11⟩ := uncons r10 l10
        obtain ⟨v12, r12, rfl, l12⟩ := uncons r11 l11
        obtain ⟨v13, r13, rfl, l13⟩ := uncons r12 l12
        obtain ⟨v14, r14, rfl, l14⟩ := uncons r13 l13
        obtain ⟨v15, r15, rfl, l15⟩ := uncons r14 l14
        obtain ⟨v16, r16, rfl, l16⟩ := uncons r15 l15
        obtain ⟨v17, r17, rfl, l17⟩ := uncons r16 l16
        obtain ⟨v18, r18, rfl, l18⟩ := uncons r17 l17
        obtain ⟨v19, r19, rfl, l19⟩ := uncons r18 l18
        obtain ⟨v20, r20, rfl, l20⟩ := uncons r19 l19
        obtain ⟨v21, r21, rfl, l21⟩ := uncons r20 l20
        obtain rfl := List.eq_nil_of_length_eq_zero l21
        have h19 : v19 = Value.string x := hvs 19 (by decide)
        subst h19
        have h20 : v20 = Value.string y := hvs 20 (by decide)
        subst h20
        have h21 : v21 = .bool true := hvs 21 (by decide)
        subst h21
        clear hvs
        simp only [puts, List.map, go_sem, List.setIfInBounds_toArray, List.set_cons_succ, List.set_cons_zero]
        go_wp2_with fail
        go_ret3
        exact ⟨⟨x, y, rfl, HXY.out, HLV.out, by have := HSA.out; omega, by have := HSB.out; omega⟩, HB6.out.trans ((HBd.out.trans (hb8.mono HBd.out.size)).mono HB6.out.size)⟩
end Go.Proofs.Ytbajgpbekanodaa
