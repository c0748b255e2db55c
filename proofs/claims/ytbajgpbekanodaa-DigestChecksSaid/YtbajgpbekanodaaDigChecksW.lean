/- The walk over pandectlaw38's DigestChecks. -/
import Derived.Test.YtbajgpbekanodaaDigComes
import Derived.Test.YtbajgpbekanodaaDigRootsW
namespace Go.Proofs.Ytbajgpbekanodaa
open Go.RowKit

set_option maxRecDepth 100000 in
set_option maxHeartbeats 2000000 in
theorem checks_great (root leaf : ByteArray) (n i : Int) (ap : Option Addr) (m cp : Nat) (w : World) (h : 3000 < (leaf.size : Int) ∨ 70 < (m : Int)) :
    Calls Try.prog 7 #[.agg #[.string root, .int .i64 n, .int .i64 i, .string leaf], .slice ap m cp] w fun e w' => e = .returned (.bool true) ∧ Below w.heap.size w w' := by
  go_enter Try.func7, Try.ntmps7
  go_upto_region 1 with fail
  refine name_world (fun w3 => (w3.cell? ⟨w.heap.size, 0, none⟩ = some (.string root) ∧ w3.cell? ⟨w.heap.size, 1, none⟩ = some (.int .i64 n) ∧ w3.cell? ⟨w.heap.size, 2, none⟩ = some (.int .i64 i) ∧ w3.cell? ⟨w.heap.size, 3, none⟩ = some (.string leaf)) ∧ Below w.heap.size w w3) ⟨⟨?_, ?_, ?_, ?_⟩, (Below.refl _ w).alloc (Nat.le_refl _) _⟩ ?_
  · exact cells_new w [.string root, .int .i64 n, .int .i64 i, .string leaf] _ 0 _ rfl
  · exact cells_new w [.string root, .int .i64 n, .int .i64 i, .string leaf] _ 1 _ rfl
  · exact cells_new w [.string root, .int .i64 n, .int .i64 i, .string leaf] _ 2 _ rfl
  · exact cells_new w [.string root, .int .i64 n, .int .i64 i, .string leaf] _ 3 _ rfl
  rintro w3 ⟨⟨h0, h1, h2, h3⟩, hb3⟩
  have HB3 := Lib.hid hb3
  clear hb3
  by_cases hl : 3000 < (leaf.size : Int)
  · have d1 : decide ((3000 : Int) < (leaf.size : Int)) = true := decide_eq_true hl
    go_wp2_with fail
    refine (awake38_any _).mono ?_
    rintro e w6 ⟨rfl, hb6⟩
    go_wp2_with fail
    go_ret
    exact ⟨rfl, HB3.out.trans (hb6.mono HB3.out.size)⟩
  · have hm : 70 < (m : Int) := by rcases h with h | h; · exact absurd h hl
                                   · exact h
    have d1 : decide ((3000 : Int) < (leaf.size : Int)) = false := decide_eq_false hl
    have d2 : decide ((70 : Int) < (m : Int)) = true := decide_eq_true hm
    clear h
    go_wp2_with fail
    refine (awake38_any _).mono ?_
    rintro e w6 ⟨rfl, hb6⟩
    go_wp2_with fail
    go_ret
    exact ⟨rfl, HB3.out.trans (hb6.mono HB3.out.size)⟩

set_option maxRecDepth 100000 in
set_option maxHeartbeats 4000000 in
theorem checks_in (root leaf : ByteArray) (n i : Int) (pv : Bool) (ap : Option Addr) (m cp : Nat) (w : World) (hl : (leaf.size : Int) ≤ 3000) (hm : (m : Int) ≤ 70)
    (C1 : Hid (∀ w', Below w.heap.size w w' → Calls Try.prog 18 #[.string root, .int .i64 n, .int .i64 i, .string leaf, .slice ap m cp] w' fun e w'' => e = .returned (.bool pv) ∧ Below w'.heap.size w' w''))
    (C2 : Hid (∀ w', Below w.heap.size w w' → Calls Try.prog 31 #[.string root, .int .i64 n, .int .i64 i, .string leaf, .slice ap m cp] w' fun e w'' => e = .returned (.bool pv) ∧ Below w'.heap.size w' w'')) :
    Calls Try.prog 7 #[.agg #[.string root, .int .i64 n, .int .i64 i, .string leaf], .slice ap m cp] w fun e w' => e = .returned (.bool true) ∧ Below w.heap.size w w' := by
  have d1 : decide ((3000 : Int) < (leaf.size : Int)) = false := decide_eq_false (by omega)
  have d2 : decide ((70 : Int) < (m : Int)) = false := decide_eq_false (by omega)
  go_enter Try.func7, Try.ntmps7
  go_upto_region 1 with fail
  refine name_world (fun w3 => (w3.cell? ⟨w.heap.size, 0, none⟩ = some (.string root) ∧ w3.cell? ⟨w.heap.size, 1, none⟩ = some (.int .i64 n) ∧ w3.cell? ⟨w.heap.size, 2, none⟩ = some (.int .i64 i) ∧ w3.cell? ⟨w.heap.size, 3, none⟩ = some (.string leaf)) ∧ Below w.heap.size w w3) ⟨⟨?_, ?_, ?_, ?_⟩, (Below.refl _ w).alloc (Nat.le_refl _) _⟩ ?_
  · exact cells_new w [.string root, .int .i64 n, .int .i64 i, .string leaf] _ 0 _ rfl
  · exact cells_new w [.string root, .int .i64 n, .int .i64 i, .string leaf] _ 1 _ rfl
  · exact cells_new w [.string root, .int .i64 n, .int .i64 i, .string leaf] _ 2 _ rfl
  · exact cells_new w [.string root, .int .i64 n, .int .i64 i, .string leaf] _ 3 _ rfl
  rintro w3 ⟨⟨h0, h1, h2, h3⟩, hb3⟩
  have HB3 := Lib.hid hb3
  clear hb3
  go_wp2_with fail
  refine wp_region_puts2 (R := fun qi w' v => v = [Value.pointer (some ⟨w.heap.size, 0, none⟩), .string root, .pointer (some ⟨w.heap.size, 1, none⟩), .int .i64 n, .pointer (some ⟨w.heap.size, 2, none⟩), .int .i64 i, .pointer (some ⟨w.heap.size, 3, none⟩), .string leaf, .slice ap m cp, .bool pv, .pointer (some ⟨w.heap.size, 0, none⟩), .string root, .pointer (some ⟨w.heap.size, 1, none⟩), .int .i64 n, .pointer (some ⟨w.heap.size, 2, none⟩), .int .i64 i, .pointer (some ⟨w.heap.size, 3, none⟩), .string leaf, .slice ap m cp, .bool pv, .bool true, .bool true, .bool true, .bool true, .bool true].getD qi undef)
    (by kernel_rfl) (by kernel_rfl) (by kernel_rfl) ?hRR (by kernel_rfl) (steps_of ?hs) ?hd
  case hRR =>
    intro qi w1 w2 v hb hv
    exact hv
  case hs =>
    refine ⟨?_, ?_, ?_, ?_, ?_, ?_, ?_, ?_, ?_, ?_, ?_, ?_, ?_, ?_, ?_, ?_, ?_, ?_, ?_, ?_, ?_, ?_, ?_, ?_, ?_, trivial⟩
    · refine stepOk_value rfl fun a w5 ht => ?_
      have e2 : a.tmps[2]?.getD undef = .pointer (some ⟨w.heap.size, 0, none⟩) := ht.old' 2 (.pointer (some ⟨w.heap.size, 0, none⟩)) (by kernel_rfl) rfl
      exact ⟨Value.pointer (some ⟨w.heap.size, 0, none⟩), w5, by go_simp, Below.refl _ _, rfl⟩
    · refine stepOk_value rfl fun a w5 ht => ?_
      have e15 : a.tmps[15]?.getD undef = Value.pointer (some ⟨w.heap.size, 0, none⟩) := ht.dep' 0 15 (by kernel_rfl) rfl
      have hc := (ht.below.cell (p := ⟨w.heap.size, 0, none⟩) (World.block_lt_of_cell? _ _ h0)).trans h0
      exact ⟨.string root, w5, by go_simp, Below.refl _ _, rfl⟩
    · refine stepOk_value rfl fun a w5 ht => ?_
      have e2 : a.tmps[2]?.getD undef = .pointer (some ⟨w.heap.size, 0, none⟩) := ht.old' 2 (.pointer (some ⟨w.heap.size, 0, none⟩)) (by kernel_rfl) rfl
      exact ⟨.pointer (some ⟨w.heap.size, 1, none⟩), w5, by go_simp, Below.refl _ _, rfl⟩
    · refine stepOk_value rfl fun a w5 ht => ?_
      have e17 : a.tmps[17]?.getD undef = .pointer (some ⟨w.heap.size, 1, none⟩) := ht.dep' 2 17 (by kernel_rfl) rfl
      have hc := (ht.below.cell (p := ⟨w.heap.size, 1, none⟩) (World.block_lt_of_cell? _ _ h1)).trans h1
      exact ⟨.int .i64 n, w5, by go_simp, Below.refl _ _, rfl⟩
    · refine stepOk_value rfl fun a w5 ht => ?_
      have e2 : a.tmps[2]?.getD undef = .pointer (some ⟨w.heap.size, 0, none⟩) := ht.old' 2 (.pointer (some ⟨w.heap.size, 0, none⟩)) (by kernel_rfl) rfl
      exact ⟨.pointer (some ⟨w.heap.size, 2, none⟩), w5, by go_simp, Below.refl _ _, rfl⟩
    · refine stepOk_value rfl fun a w5 ht => ?_
      have e19 : a.tmps[19]?.getD undef = .pointer (some ⟨w.heap.size, 2, none⟩) := ht.dep' 4 19 (by kernel_rfl) rfl
      have hc := (ht.below.cell (p := ⟨w.heap.size, 2, none⟩) (World.block_lt_of_cell? _ _ h2)).trans h2
      exact ⟨.int .i64 i, w5, by go_simp, Below.refl _ _, rfl⟩
    · refine stepOk_value rfl fun a w5 ht => ?_
      have e2 : a.tmps[2]?.getD undef = .pointer (some ⟨w.heap.size, 0, none⟩) := ht.old' 2 (.pointer (some ⟨w.heap.size, 0, none⟩)) (by kernel_rfl) rfl
      exact ⟨.pointer (some ⟨w.heap.size, 3, none⟩), w5, by go_simp, Below.refl _ _, rfl⟩
    · refine stepOk_value rfl fun a w5 ht => ?_
      have e21 : a.tmps[21]?.getD undef = .pointer (some ⟨w.heap.size, 3, none⟩) := ht.dep' 6 21 (by kernel_rfl) rfl
      have hc := (ht.below.cell (p := ⟨w.heap.size, 3, none⟩) (World.block_lt_of_cell? _ _ h3)).trans h3
      exact ⟨.string leaf, w5, by go_simp, Below.refl _ _, rfl⟩
    · refine stepOk_value rfl fun a w5 ht => ?_
      have e1 : a.tmps[1]?.getD undef = .slice ap m cp := ht.old' 1 (.slice ap m cp) (by kernel_rfl) rfl
      exact ⟨.slice ap m cp, w5, by go_simp, Below.refl _ _, rfl⟩
    · refine stepOk_call rfl fun a w5 ht => ?_
      have e16 : a.tmps[16]?.getD undef = .string root := ht.dep' 1 16 (by kernel_rfl) rfl
      have e18 : a.tmps[18]?.getD undef = .int .i64 n := ht.dep' 3 18 (by kernel_rfl) rfl
      have e20 : a.tmps[20]?.getD undef = .int .i64 i := ht.dep' 5 20 (by kernel_rfl) rfl
      have e22 : a.tmps[22]?.getD undef = .string leaf := ht.dep' 7 22 (by kernel_rfl) rfl
      have e23 : a.tmps[23]?.getD undef = .slice ap m cp := ht.dep' 8 23 (by kernel_rfl) rfl
      refine ⟨18, #[.string root, .int .i64 n, .int .i64 i, .string leaf, .slice ap m cp], by go_simp, (C1.out _ (HB3.out.trans (ht.below.mono HB3.out.size))).mono ?_⟩
      rintro e w' ⟨rfl, hb⟩
      exact ⟨_, rfl, hb, rfl⟩
    · refine stepOk_value rfl fun a w5 ht => ?_
      have e2 : a.tmps[2]?.getD undef = .pointer (some ⟨w.heap.size, 0, none⟩) := ht.old' 2 (.pointer (some ⟨w.heap.size, 0, none⟩)) (by kernel_rfl) rfl
      exact ⟨.pointer (some ⟨w.heap.size, 0, none⟩), w5, by go_simp, Below.refl _ _, rfl⟩
    · refine stepOk_value rfl fun a w5 ht => ?_
      have e25 : a.tmps[25]?.getD undef = .pointer (some ⟨w.heap.size, 0, none⟩) := ht.dep' 10 25 (by kernel_rfl) rfl
      have hc := (ht.below.cell (p := ⟨w.heap.size, 0, none⟩) (World.block_lt_of_cell? _ _ h0)).trans h0
      exact ⟨.string root, w5, by go_simp, Below.refl _ _, rfl⟩
    · refine stepOk_value rfl fun a w5 ht => ?_
      have e2 : a.tmps[2]?.getD undef = .pointer (some ⟨w.heap.size, 0, none⟩) := ht.old' 2 (.pointer (some ⟨w.heap.size, 0, none⟩)) (by kernel_rfl) rfl
      exact ⟨.pointer (some ⟨w.heap.size, 1, none⟩), w5, by go_simp, Below.refl _ _, rfl⟩
    · refine stepOk_value rfl fun a w5 ht => ?_
      have e27 : a.tmps[27]?.getD undef = .pointer (some ⟨w.heap.size, 1, none⟩) := ht.dep' 12 27 (by kernel_rfl) rfl
      have hc := (ht.below.cell (p := ⟨w.heap.size, 1, none⟩) (World.block_lt_of_cell? _ _ h1)).trans h1
      exact ⟨.int .i64 n, w5, by go_simp, Below.refl _ _, rfl⟩
    · refine stepOk_value rfl fun a w5 ht => ?_
      have e2 : a.tmps[2]?.getD undef = .pointer (some ⟨w.heap.size, 0, none⟩) := ht.old' 2 (.pointer (some ⟨w.heap.size, 0, none⟩)) (by kernel_rfl) rfl
      exact ⟨.pointer (some ⟨w.heap.size, 2, none⟩), w5, by go_simp, Below.refl _ _, rfl⟩
    · refine stepOk_value rfl fun a w5 ht => ?_
      have e29 : a.tmps[29]?.getD undef = .pointer (some ⟨w.heap.size, 2, none⟩) := ht.dep' 14 29 (by kernel_rfl) rfl
      have hc := (ht.below.cell (p := ⟨w.heap.size, 2, none⟩) (World.block_lt_of_cell? _ _ h2)).trans h2
      exact ⟨.int .i64 i, w5, by go_simp, Below.refl _ _, rfl⟩
    · refine stepOk_value rfl fun a w5 ht => ?_
      have e2 : a.tmps[2]?.getD undef = .pointer (some ⟨w.heap.size, 0, none⟩) := ht.old' 2 (.pointer (some ⟨w.heap.size, 0, none⟩)) (by kernel_rfl) rfl
      exact ⟨.pointer (some ⟨w.heap.size, 3, none⟩), w5, by go_simp, Below.refl _ _, rfl⟩
    · refine stepOk_value rfl fun a w5 ht => ?_
      have e31 : a.tmps[31]?.getD undef = .pointer (some ⟨w.heap.size, 3, none⟩) := ht.dep' 16 31 (by kernel_rfl) rfl
      have hc := (ht.below.cell (p := ⟨w.heap.size, 3, none⟩) (World.block_lt_of_cell? _ _ h3)).trans h3
      exact ⟨.string leaf, w5, by go_simp, Below.refl _ _, rfl⟩
    · refine stepOk_value rfl fun a w5 ht => ?_
      have e1 : a.tmps[1]?.getD undef = .slice ap m cp := ht.old' 1 (.slice ap m cp) (by kernel_rfl) rfl
      exact ⟨.slice ap m cp, w5, by go_simp, Below.refl _ _, rfl⟩
    · refine stepOk_call rfl fun a w5 ht => ?_
      have e26 : a.tmps[26]?.getD undef = .string root := ht.dep' 11 26 (by kernel_rfl) rfl
      have e28 : a.tmps[28]?.getD undef = .int .i64 n := ht.dep' 13 28 (by kernel_rfl) rfl
      have e30 : a.tmps[30]?.getD undef = .int .i64 i := ht.dep' 15 30 (by kernel_rfl) rfl
      have e32 : a.tmps[32]?.getD undef = .string leaf := ht.dep' 17 32 (by kernel_rfl) rfl
      have e33 : a.tmps[33]?.getD undef = .slice ap m cp := ht.dep' 18 33 (by kernel_rfl) rfl
      refine ⟨31, #[.string root, .int .i64 n, .int .i64 i, .string leaf, .slice ap m cp], by go_simp, (C2.out _ (HB3.out.trans (ht.below.mono HB3.out.size))).mono ?_⟩
      rintro e w' ⟨rfl, hb⟩
      exact ⟨_, rfl, hb, rfl⟩
    · refine stepOk_value rfl fun a w5 ht => ?_
      have e24 : a.tmps[24]?.getD undef = .bool pv := ht.dep' 9 24 (by kernel_rfl) rfl
      have e34 : a.tmps[34]?.getD undef = .bool pv := ht.dep' 19 34 (by kernel_rfl) rfl
      exact ⟨.bool true, w5, by go_simp, Below.refl _ _, rfl⟩
    · refine stepOk_value rfl fun a w5 ht => ?_
      have e35 : a.tmps[35]?.getD undef = .bool true := ht.dep' 20 35 (by kernel_rfl) rfl
      exact ⟨.bool true, w5, by go_simp, Below.refl _ _, rfl⟩
    · refine stepOk_call_guarded 21 36 true rfl (by kernel_rfl) rfl (Nat.le_of_ble_eq_true rfl) (fun w v h => h) fun a w5 ht => ?_
      refine ⟨16, #[], by go_simp, (awake38_any w5).mono ?_⟩
      rintro e w' ⟨rfl, hb⟩
      exact ⟨_, rfl, hb, rfl⟩
    · refine stepOk_value rfl fun a w5 ht => ?_
      have e36 : a.tmps[36]?.getD undef = .bool true := ht.dep' 21 36 (by kernel_rfl) rfl
      have e37 : a.tmps[37]?.getD undef = .bool true := ht.dep' 22 37 (by kernel_rfl) rfl
      exact ⟨.bool true, w5, by go_simp, Below.refl _ _, rfl⟩
    · refine stepOk_value rfl fun a w5 ht => ?_
      have e38 : a.tmps[38]?.getD undef = .bool true := ht.dep' 23 38 (by kernel_rfl) rfl
      exact ⟨.bool true, w5, by go_simp, Below.refl _ _, rfl⟩
  case hd =>
    intro vs w8 hl hb8 hvs
    have hl : vs.length = 25 := hl
    obtain ⟨v0, r0, rfl, l0⟩ := uncons vs hl
    obtain ⟨v1, r1, rfl, l1⟩ := uncons r0 l0
    obtain ⟨v2, r2, rfl, l2⟩ := uncons r1 l1
    obtain ⟨v3, r3, rfl, l3⟩ := uncons r2 l2
    obtain ⟨v4, r4, rfl, l4⟩ := uncons r3 l3
    obtain ⟨v5, r5, rfl, l5⟩ := uncons r4 l4
    obtain ⟨v6, r6, rfl, l6⟩ := uncons r5 l5
    obtain ⟨v7, r7, rfl, l7⟩ := uncons r6 l6
    obtain ⟨v8, r8, rfl, l8⟩ := uncons r7 l7
    obtain ⟨v9, r9, rfl, l9⟩ := uncons r8 l8
    obtain ⟨v10, r10, rfl, l10⟩ := uncons r9 l9
    obtain ⟨v11, r11, rfl, l11⟩ := uncons r10 l10
    obtain ⟨v12, r12, rfl, l12⟩ := uncons r11 l11
    obtain ⟨v13, r13, rfl, l13⟩ := uncons r12 l12
    obtain ⟨v14, r14, rfl, l14⟩ := uncons r13 l13
    obtain ⟨v15, r15, rfl, l15⟩ := uncons r14 l14
    obtain ⟨v16, r16, rfl, l16⟩ := uncons r15 l15
    obtain ⟨v17, r17, rfl, l17⟩ := uncons r16 l16
    obtain ⟨v18, r18, rfl, l18⟩ := uncons r17 l17
    obtain ⟨v19, r19, rfl, l19⟩ := uncons r18 l18
    obtain ⟨v20, r20, rfl, l20⟩ := uncons r19 l19
    obtain ⟨v21, r21, rfl, l21⟩ := uncons r20 l20
    obtain ⟨v22, r22, rfl, l22⟩ := uncons r21 l21
    obtain ⟨v23, r23, rfl, l23⟩ := uncons r22 l22
    obtain ⟨v24, r24, rfl, l24⟩ := uncons r23 l23
    obtain rfl := List.eq_nil_of_length_eq_zero l24
    have h24 : v24 = .bool true := hvs 24 (by decide)
    subst h24
    clear hvs
    simp only [puts, List.map, go_sem, List.setIfInBounds_toArray, List.set_cons_succ, List.set_cons_zero]
    go_wp2_with fail
    go_ret
    exact ⟨rfl, HB3.out.trans (hb8.mono HB3.out.size)⟩

theorem digestChecks_walk (root : ByteArray) (n i : Int) (leaf : ByteArray) (ap : Option Addr) (cp : Nat) (ps : List ByteArray) (w : World) (hb : (-9223372036854775808 ≤ n ∧ n ≤ 9223372036854775807) ∧ -9223372036854775808 ≤ i ∧ i ≤ 9223372036854775807)
    (hpf : StrsFit ps cp) (hpc : StrsAt w ap ps) (_ : cp * 16 ≤ 140737488351232) :
    Calls Try.prog 7 #[.agg #[.string root, .int .i64 n, .int .i64 i, .string leaf], .slice ap ps.length cp] w fun e w' => e = .returned (.bool true) ∧ Below w.heap.size w w' := by
  by_cases h : 3000 < (leaf.size : Int) ∨ 70 < (ps.length : Int)
  · exact checks_great root leaf n i ap ps.length cp w h
  · refine checks_in root leaf n i (Tre.provesR shaB root n i leaf ps) ap ps.length cp w (by omega) (by omega) ?_ ?_
    · intro w' hb'
      exact proves_any sum_law root n i hb.1.2 leaf (by omega) ps ap cp w' hpf (hpc.kept hb' (Nat.le_refl _))
    · intro w' hb'
      exact refProves_any ref_law root n i hb.1.2 leaf (by omega) ps ap cp w' hpf (hpc.kept hb' (Nat.le_refl _))
end Go.Proofs.Ytbajgpbekanodaa
