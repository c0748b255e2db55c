/- The walks over feed's text and Hash. -/
import Derived.Test.YtbajgpbekanodaaFeedMath
import Derived.Test.YtbajgpbekanodaaOctText
import Derived.Test.YtbajgpbekanodaaDigTree
import Derived.Test.YtbajgpbekanodaaRegion
import Derived.Test.YtbajgpbekanodaaDigRefRoot
namespace Go.Proofs.Ytbajgpbekanodaa
open Go.RowKit

theorem numB_le (n : Nat) : (Oct.numB n).size ≤ 9 := by
  unfold Oct.numB
  have := Oct.num_length_le n
  show (Oct.num n).toArray.size ≤ 9
  rw [List.size_toArray]
  exact this
theorem textB_le (s : ByteArray) : (Oct.textB s).size ≤ 9 + s.size := by
  unfold Oct.textB
  rw [ByteArray.size_append]
  have := numB_le s.size
  omega
theorem max_nat (x : Int) : max x 0 = ((max x 0).toNat : Int) := by omega
theorem text_size (e : Fd.Ent) (h : e.ok) : e.text.size ≤ 149000000000100 := by
  obtain ⟨_, _, _, _, h4⟩ := h
  unfold Fd.Ent.text
  rw [ByteArray.size_append, ByteArray.size_append]
  have := numB_le (max e.seq 0).toNat
  have := textB_le e.prev
  have := textB_le e.body
  omega

set_option maxRecDepth 100000 in
set_option maxHeartbeats 2000000 in
theorem feedText_raw (sq : Int) (q : Nat) (pv bd t1 t2 : ByteArray) (w : World) (hq : max sq 0 = (q : Int)) (hq63 : (q : Int) ≤ 9223372036854775807) (hp : pv.size ≤ 140737488355328) (hb : bd.size ≤ 140737488355328) (h1 : Oct.numB q ++ Oct.textB pv = t1) (h2 : t1 ++ Oct.textB bd = t2)
    (hs1 : (Oct.numB q).size + (Oct.textB pv).size ≤ 9223372036854775807) (hs2 : t1.size + (Oct.textB bd).size ≤ 9223372036854775807) :
    Calls Try.prog 71 #[.agg #[.int .i64 sq, .string pv, .string bd]] w fun e w' => e = .returned (.string t2) ∧ Below w.heap.size w w' := by
  have C1 := Lib.hid (fun w => number_any q (by omega) w)
  have C2 := Lib.hid (fun w => text_any pv (by omega) w)
  have C3 := Lib.hid (fun w => text_any bd (by omega) w)
  have q1 : IntKind.u64.wrap (q : Int) = (q : Int) := IntWalk.u64_in _ ⟨by omega, by omega⟩
  clear hp hb
  go_enter Try.func71, Try.ntmps71
  go_upto_region 1 with fail
  refine name_world (fun w3 => (w3.cell? ⟨w.heap.size, 0, none⟩ = some (.int .i64 sq) ∧ w3.cell? ⟨w.heap.size, 1, none⟩ = some (.string pv) ∧ w3.cell? ⟨w.heap.size, 2, none⟩ = some (.string bd)) ∧ Below w.heap.size w w3) ⟨⟨?_, ?_, ?_⟩, (Below.refl _ w).alloc (Nat.le_refl _) _⟩ ?_
  · exact cells_new w [.int .i64 sq, .string pv, .string bd] _ 0 _ rfl
  · exact cells_new w [.int .i64 sq, .string pv, .string bd] _ 1 _ rfl
  · exact cells_new w [.int .i64 sq, .string pv, .string bd] _ 2 _ rfl
  rintro w3 ⟨⟨h0, h1', h2'⟩, hb3⟩
  have HB3 := Lib.hid hb3
  clear hb3
  refine wp_region_puts2 (R := fun qi w' v => v = [Value.pointer (some ⟨w.heap.size, 0, none⟩), .int .i64 sq, .int .i64 (q : Int), .int .u64 (q : Int), .string (Oct.numB q), .pointer (some ⟨w.heap.size, 1, none⟩), .string pv, .string (Oct.textB pv), .string t1, .pointer (some ⟨w.heap.size, 2, none⟩), .string bd, .string (Oct.textB bd), .string t2, .string t2].getD qi undef)
    (by kernel_rfl) (by kernel_rfl) (by kernel_rfl) ?hRR (by kernel_rfl) (steps_of ?hs) ?hd
  case hRR =>
    intro qi w1 w2 v hb hv
    exact hv
  case hs =>
    refine ⟨?_, ?_, ?_, ?_, ?_, ?_, ?_, ?_, ?_, ?_, ?_, ?_, ?_, ?_, trivial⟩
    · refine stepOk_value rfl fun a w5 ht => ?_
      have e1 : a.tmps[1]?.getD undef = .pointer (some ⟨w.heap.size, 0, none⟩) := ht.old' 1 (.pointer (some ⟨w.heap.size, 0, none⟩)) (by kernel_rfl) rfl
      exact ⟨Value.pointer (some ⟨w.heap.size, 0, none⟩), w5, by go_simp, Below.refl _ _, rfl⟩
    · refine stepOk_value rfl fun a w5 ht => ?_
      have e3 : a.tmps[3]?.getD undef = Value.pointer (some ⟨w.heap.size, 0, none⟩) := ht.dep' 0 3 (by kernel_rfl) rfl
      have hc := (ht.below.cell (p := ⟨w.heap.size, 0, none⟩) (World.block_lt_of_cell? _ _ h0)).trans h0
      exact ⟨.int .i64 sq, w5, by go_simp, Below.refl _ _, rfl⟩
    · refine stepOk_value rfl fun a w5 ht => ?_
      have e4 : a.tmps[4]?.getD undef = .int .i64 sq := ht.dep' 1 4 (by kernel_rfl) rfl
      exact ⟨.int .i64 (q : Int), w5, by go_simp, Below.refl _ _, rfl⟩
    · refine stepOk_value rfl fun a w5 ht => ?_
      have e5 : a.tmps[5]?.getD undef = .int .i64 (q : Int) := ht.dep' 2 5 (by kernel_rfl) rfl
      exact ⟨.int .u64 (q : Int), w5, by go_simp, Below.refl _ _, rfl⟩
    · refine stepOk_call rfl fun a w5 ht => ?_
      have e6 : a.tmps[6]?.getD undef = .int .u64 (q : Int) := ht.dep' 3 6 (by kernel_rfl) rfl
      refine ⟨86, #[.int .u64 (q : Int)], by go_simp, (C1.out w5).mono ?_⟩
      rintro e w' ⟨rfl, hb⟩
      exact ⟨_, rfl, hb, rfl⟩
    · refine stepOk_value rfl fun a w5 ht => ?_
      have e1 : a.tmps[1]?.getD undef = .pointer (some ⟨w.heap.size, 0, none⟩) := ht.old' 1 (.pointer (some ⟨w.heap.size, 0, none⟩)) (by kernel_rfl) rfl
      exact ⟨.pointer (some ⟨w.heap.size, 1, none⟩), w5, by go_simp, Below.refl _ _, rfl⟩
    · refine stepOk_value rfl fun a w5 ht => ?_
      have e8 : a.tmps[8]?.getD undef = .pointer (some ⟨w.heap.size, 1, none⟩) := ht.dep' 5 8 (by kernel_rfl) rfl
      have hc := (ht.below.cell (p := ⟨w.heap.size, 1, none⟩) (World.block_lt_of_cell? _ _ h1')).trans h1'
      exact ⟨.string pv, w5, by go_simp, Below.refl _ _, rfl⟩
    · refine stepOk_call rfl fun a w5 ht => ?_
      have e9 : a.tmps[9]?.getD undef = .string pv := ht.dep' 6 9 (by kernel_rfl) rfl
      refine ⟨87, #[.string pv], by go_simp, (C2.out w5).mono ?_⟩
      rintro e w' ⟨rfl, hb⟩
      exact ⟨_, rfl, hb, rfl⟩
    · refine stepOk_value rfl fun a w5 ht => ?_
      have e7 : a.tmps[7]?.getD undef = .string (Oct.numB q) := ht.dep' 4 7 (by kernel_rfl) rfl
      have e10 : a.tmps[10]?.getD undef = .string (Oct.textB pv) := ht.dep' 7 10 (by kernel_rfl) rfl
      exact ⟨.string t1, w5, by go_simp, Below.refl _ _, rfl⟩
    · refine stepOk_value rfl fun a w5 ht => ?_
      have e1 : a.tmps[1]?.getD undef = .pointer (some ⟨w.heap.size, 0, none⟩) := ht.old' 1 (.pointer (some ⟨w.heap.size, 0, none⟩)) (by kernel_rfl) rfl
      exact ⟨.pointer (some ⟨w.heap.size, 2, none⟩), w5, by go_simp, Below.refl _ _, rfl⟩
    · refine stepOk_value rfl fun a w5 ht => ?_
      have e12 : a.tmps[12]?.getD undef = .pointer (some ⟨w.heap.size, 2, none⟩) := ht.dep' 9 12 (by kernel_rfl) rfl
      have hc := (ht.below.cell (p := ⟨w.heap.size, 2, none⟩) (World.block_lt_of_cell? _ _ h2')).trans h2'
      exact ⟨.string bd, w5, by go_simp, Below.refl _ _, rfl⟩
    · refine stepOk_call rfl fun a w5 ht => ?_
      have e13 : a.tmps[13]?.getD undef = .string bd := ht.dep' 10 13 (by kernel_rfl) rfl
      refine ⟨87, #[.string bd], by go_simp, (C3.out w5).mono ?_⟩
      rintro e w' ⟨rfl, hb⟩
      exact ⟨_, rfl, hb, rfl⟩
    · refine stepOk_value rfl fun a w5 ht => ?_
      have e11 : a.tmps[11]?.getD undef = .string t1 := ht.dep' 8 11 (by kernel_rfl) rfl
      have e14 : a.tmps[14]?.getD undef = .string (Oct.textB bd) := ht.dep' 11 14 (by kernel_rfl) rfl
      exact ⟨.string t2, w5, by go_simp, Below.refl _ _, rfl⟩
    · refine stepOk_value rfl fun a w5 ht => ?_
      have e15 : a.tmps[15]?.getD undef = .string t2 := ht.dep' 12 15 (by kernel_rfl) rfl
      exact ⟨.string t2, w5, by go_simp, Below.refl _ _, rfl⟩
  case hd =>
    intro vs w8 hl hb8 hvs
    have hl : vs.length = 14 := hl
    obtain ⟨v0, r0, rfl, l0⟩ := uncons vs hl
    obtain ⟨v1, r1, rfl, l1⟩ := uncons r0 l0
    obtain ⟨v2, r2, rfl, l2⟩ := uncons r1 l1
    obtain ⟨v3, r3, rfl, l3⟩ := uncons r2 l2
    obtain ⟨v4, r4, rfl, l4⟩ := uncons r3 l3
    obtain ⟨v5, r5, rfl, l5⟩ := uncons r4 l4
    obtain ⟨v6, r6, rfl, l6⟩ := uncons r5 l5
    obtain ⟨v7, r7, rfl, l7⟩ := uncons r6 l6
    obtain ⟨v8, r8, rfl, l8⟩ := uncons r7 l7
    obtain ⟨v9, r9, rfl, l9⟩ := uncons r8 l8
    obtain ⟨v10, r10, rfl, l10⟩ := uncons r9 l9
    obtain ⟨v11, r11, rfl, l11⟩ := uncons r10 l10
    obtain ⟨v12, r12, rfl, l12⟩ := uncons r11 l11
    obtain ⟨v13, r13, rfl, l13⟩ := uncons r12 l12
    obtain rfl := List.eq_nil_of_length_eq_zero l13
    have h13 : v13 = .string t2 := hvs 13 (by decide)
    subst h13
    clear hvs
    simp only [puts, List.map, go_sem, List.setIfInBounds_toArray, List.set_cons_succ, List.set_cons_zero]
    go_wp2_with fail
    go_ret
    exact ⟨rfl, HB3.out.trans (hb8.mono HB3.out.size)⟩

theorem feedText_any (e : Fd.Ent) (h : e.ok) (w : World) :
    Calls Try.prog 71 #[e.val] w fun r w' => r = .returned (.string e.text) ∧ Below w.heap.size w w' := by
  obtain ⟨h1, h2, h3, h4, h5⟩ := h
  have a := numB_le (max e.seq 0).toNat
  have b := textB_le e.prev
  have c := textB_le e.body
  exact feedText_raw e.seq (max e.seq 0).toNat e.prev e.body _ e.text w (max_nat _) (by omega) h3 h4 rfl rfl (by omega) (by rw [ByteArray.size_append]; omega)
set_option maxRecDepth 100000 in
set_option maxHeartbeats 2000000 in
theorem feedHash_any {H : ByteArray → ByteArray} (hS : SumLaw H) (e : Fd.Ent) (h : e.ok) (w : World) :
    Calls Try.prog 49 #[e.val] w fun r w' => r = .returned (.string (H e.text)) ∧ Below w.heap.size w w' := by
  have C1 := Lib.hid (fun w => feedText_any e h w)
  have C2 := Lib.hid (fun ao w h1 => sum_one hS e.text (by have := text_size e h; omega) ao w h1)
  generalize e.text = t at *
  obtain ⟨sq, pv, bd⟩ := e
  unfold Fd.Ent.val at *
  simp only at C1 ⊢
  clear h
  go_enter Try.func49, Try.ntmps49
  go_upto_region 1 with fail
  refine name_world (fun w3 => (w3.cell? ⟨w.heap.size, 0, none⟩ = some (.int .i64 sq) ∧ w3.cell? ⟨w.heap.size, 1, none⟩ = some (.string pv) ∧ w3.cell? ⟨w.heap.size, 2, none⟩ = some (.string bd)) ∧ Below w.heap.size w w3) ⟨⟨?_, ?_, ?_⟩, (Below.refl _ w).alloc (Nat.le_refl _) _⟩ ?_
  · exact cells_new w [.int .i64 sq, .string pv, .string bd] _ 0 _ rfl
  · exact cells_new w [.int .i64 sq, .string pv, .string bd] _ 1 _ rfl
  · exact cells_new w [.int .i64 sq, .string pv, .string bd] _ 2 _ rfl
  rintro w3 ⟨⟨h0, h1', h2'⟩, hb3⟩
  have HB3 := Lib.hid hb3
  clear hb3
  go_wp2_with fail
  refine (C1.out _).mono ?_
  rintro e w4 ⟨rfl, hb4⟩
  have HB4 := Lib.hid (HB3.out.trans (hb4.mono HB3.out.size))
  clear hb4
  go_wp2_with fail
  refine (C2.out _ _ (strs_new _ _ _ _ rfl _ rfl)).mono ?_
  rintro e w5 ⟨rfl, hb5⟩
  go_wp2_with fail
  go_ret
  have k5 := HB4.out.alloc HB4.out.size (.cells #[.string t] 9)
  exact ⟨rfl, k5.trans (hb5.mono k5.size)⟩

/-! ### The document's Text and Hash -/
set_option maxRecDepth 100000 in
set_option maxHeartbeats 2000000 in
theorem refFeedText_raw (sq : Int) (q : Nat) (pv bd t1 t2 : ByteArray) (w : World) (hq : max sq 0 = (q : Int)) (hq63 : (q : Int) ≤ 9223372036854775807) (hp : pv.size ≤ 140737488355328) (hb : bd.size ≤ 140737488355328) (h1 : Oct.numB q ++ Oct.textB pv = t1) (h2 : t1 ++ Oct.textB bd = t2)
    (hs1 : (Oct.numB q).size + (Oct.textB pv).size ≤ 9223372036854775807) (hs2 : t1.size + (Oct.textB bd).size ≤ 9223372036854775807) :
    Calls Try.prog 74 #[.agg #[.int .i64 sq, .string pv, .string bd]] w fun e w' => e = .returned (.string t2) ∧ Below w.heap.size w w' := by
  have C1 := Lib.hid (fun w => refNumber_any q (by omega) w)
  have C2 := Lib.hid (fun w => refText_any pv (by omega) w)
  have C3 := Lib.hid (fun w => refText_any bd (by omega) w)
  have q1 : IntKind.u64.wrap (q : Int) = (q : Int) := IntWalk.u64_in _ ⟨by omega, by omega⟩
  clear hp hb
  by_cases hpos : 0 < sq
  · obtain rfl : sq = (q : Int) := by omega
    clear hq
    go_enter Try.func74, Try.ntmps74
    go_upto_region 1 with fail
    refine name_world (fun w3 => (w3.cell? ⟨w.heap.size, 0, none⟩ = some (.int .i64 (q : Int)) ∧ w3.cell? ⟨w.heap.size, 1, none⟩ = some (.string pv) ∧ w3.cell? ⟨w.heap.size, 2, none⟩ = some (.string bd)) ∧ Below w.heap.size w w3) ⟨⟨?_, ?_, ?_⟩, (Below.refl _ w).alloc (Nat.le_refl _) _⟩ ?_
    · exact cells_new w [.int .i64 (q : Int), .string pv, .string bd] _ 0 _ rfl
    · exact cells_new w [.int .i64 (q : Int), .string pv, .string bd] _ 1 _ rfl
    · exact cells_new w [.int .i64 (q : Int), .string pv, .string bd] _ 2 _ rfl
    rintro w3 ⟨⟨h0, h1', h2'⟩, hb3⟩
    have HB3 := Lib.hid hb3
    clear hb3
    go_wp2_with fail
    refine wp_region_puts2 (R := fun qi w' v => v = [Value.int .u64 (q : Int), .string (Oct.numB q), .pointer (some ⟨w.heap.size, 1, none⟩), .string pv, .string (Oct.textB pv), .string t1, .pointer (some ⟨w.heap.size, 2, none⟩), .string bd, .string (Oct.textB bd), .string t2, .string t2].getD qi undef)
      (by kernel_rfl) (by kernel_rfl) (by kernel_rfl) ?hRR (by kernel_rfl) (steps_of ?hs) ?hd
    case hRR =>
      intro qi w1 w2 v hb hv
      exact hv
    case hs =>
      refine ⟨?_, ?_, ?_, ?_, ?_, ?_, ?_, ?_, ?_, ?_, ?_, trivial⟩
      · refine stepOk_value rfl fun a w5 ht => ?_
        have e3 : a.tmps[3]?.getD undef = .int .u64 (q : Int) := ht.old' 3 (.int .u64 (q : Int)) (by kernel_rfl) rfl
        exact ⟨Value.int .u64 (q : Int), w5, by go_simp, Below.refl _ _, rfl⟩
      · refine stepOk_call rfl fun a w5 ht => ?_
        have e10 : a.tmps[10]?.getD undef = Value.int .u64 (q : Int) := ht.dep' 0 10 (by kernel_rfl) rfl
        refine ⟨89, #[.int .u64 (q : Int)], by go_simp, (C1.out w5).mono ?_⟩
        rintro e w' ⟨rfl, hb⟩
        exact ⟨_, rfl, hb, rfl⟩
      · refine stepOk_value rfl fun a w5 ht => ?_
        have e1 : a.tmps[1]?.getD undef = .pointer (some ⟨w.heap.size, 0, none⟩) := ht.old' 1 (.pointer (some ⟨w.heap.size, 0, none⟩)) (by kernel_rfl) rfl
        exact ⟨.pointer (some ⟨w.heap.size, 1, none⟩), w5, by go_simp, Below.refl _ _, rfl⟩
      · refine stepOk_value rfl fun a w5 ht => ?_
        have e12 : a.tmps[12]?.getD undef = .pointer (some ⟨w.heap.size, 1, none⟩) := ht.dep' 2 12 (by kernel_rfl) rfl
        have hc := (ht.below.cell (p := ⟨w.heap.size, 1, none⟩) (World.block_lt_of_cell? _ _ h1')).trans h1'
        exact ⟨.string pv, w5, by go_simp, Below.refl _ _, rfl⟩
      · refine stepOk_call rfl fun a w5 ht => ?_
        have e13 : a.tmps[13]?.getD undef = .string pv := ht.dep' 3 13 (by kernel_rfl) rfl
        refine ⟨90, #[.string pv], by go_simp, (C2.out w5).mono ?_⟩
        rintro e w' ⟨rfl, hb⟩
        exact ⟨_, rfl, hb, rfl⟩
      · refine stepOk_value rfl fun a w5 ht => ?_
        have e11 : a.tmps[11]?.getD undef = .string (Oct.numB q) := ht.dep' 1 11 (by kernel_rfl) rfl
        have e14 : a.tmps[14]?.getD undef = .string (Oct.textB pv) := ht.dep' 4 14 (by kernel_rfl) rfl
        exact ⟨.string t1, w5, by go_simp, Below.refl _ _, rfl⟩
      · refine stepOk_value rfl fun a w5 ht => ?_
        have e1 : a.tmps[1]?.getD undef = .pointer (some ⟨w.heap.size, 0, none⟩) := ht.old' 1 (.pointer (some ⟨w.heap.size, 0, none⟩)) (by kernel_rfl) rfl
        exact ⟨.pointer (some ⟨w.heap.size, 2, none⟩), w5, by go_simp, Below.refl _ _, rfl⟩
      · refine stepOk_value rfl fun a w5 ht => ?_
        have e16 : a.tmps[16]?.getD undef = .pointer (some ⟨w.heap.size, 2, none⟩) := ht.dep' 6 16 (by kernel_rfl) rfl
        have hc := (ht.below.cell (p := ⟨w.heap.size, 2, none⟩) (World.block_lt_of_cell? _ _ h2')).trans h2'
        exact ⟨.string bd, w5, by go_simp, Below.refl _ _, rfl⟩
      · refine stepOk_call rfl fun a w5 ht => ?_
        have e17 : a.tmps[17]?.getD undef = .string bd := ht.dep' 7 17 (by kernel_rfl) rfl
        refine ⟨90, #[.string bd], by go_simp, (C3.out w5).mono ?_⟩
        rintro e w' ⟨rfl, hb⟩
        exact ⟨_, rfl, hb, rfl⟩
      · refine stepOk_value rfl fun a w5 ht => ?_
        have e15 : a.tmps[15]?.getD undef = .string t1 := ht.dep' 5 15 (by kernel_rfl) rfl
        have e18 : a.tmps[18]?.getD undef = .string (Oct.textB bd) := ht.dep' 8 18 (by kernel_rfl) rfl
        exact ⟨.string t2, w5, by go_simp, Below.refl _ _, rfl⟩
      · refine stepOk_value rfl fun a w5 ht => ?_
        have e19 : a.tmps[19]?.getD undef = .string t2 := ht.dep' 9 19 (by kernel_rfl) rfl
        exact ⟨.string t2, w5, by go_simp, Below.refl _ _, rfl⟩
    case hd =>
      intro vs w8 hl hb8 hvs
      have hl : vs.length = 11 := hl
      obtain ⟨v0, r0, rfl, l0⟩ := uncons vs hl
      obtain ⟨v1, r1, rfl, l1⟩ := uncons r0 l0
      obtain ⟨v2, r2, rfl, l2⟩ := uncons r1 l1
      obtain ⟨v3, r3, rfl, l3⟩ := uncons r2 l2
      obtain ⟨v4, r4, rfl, l4⟩ := uncons r3 l3
      obtain ⟨v5, r5, rfl, l5⟩ := uncons r4 l4
      obtain ⟨v6, r6, rfl, l6⟩ := uncons r5 l5
      obtain ⟨v7, r7, rfl, l7⟩ := uncons r6 l6
      obtain ⟨v8, r8, rfl, l8⟩ := uncons r7 l7
      obtain ⟨v9, r9, rfl, l9⟩ := uncons r8 l8
      obtain ⟨v10, r10, rfl, l10⟩ := uncons r9 l9
      obtain rfl := List.eq_nil_of_length_eq_zero l10
      have h10 : v10 = .string t2 := hvs 10 (by decide)
      subst h10
      clear hvs
      simp only [puts, List.map, go_sem, List.setIfInBounds_toArray, List.set_cons_succ, List.set_cons_zero]
      go_wp2_with fail
      go_ret
      exact ⟨rfl, HB3.out.trans (hb8.mono HB3.out.size)⟩
  · obtain rfl : q = 0 := by omega
    clear hq
    go_enter Try.func74, Try.ntmps74
    go_upto_region 1 with fail
    refine name_world (fun w3 => (w3.cell? ⟨w.heap.size, 0, none⟩ = some (.int .i64 sq) ∧ w3.cell? ⟨w.heap.size, 1, none⟩ = some (.string pv) ∧ w3.cell? ⟨w.heap.size, 2, none⟩ = some (.string bd)) ∧ Below w.heap.size w w3) ⟨⟨?_, ?_, ?_⟩, (Below.refl _ w).alloc (Nat.le_refl _) _⟩ ?_
    · exact cells_new w [.int .i64 sq, .string pv, .string bd] _ 0 _ rfl
    · exact cells_new w [.int .i64 sq, .string pv, .string bd] _ 1 _ rfl
    · exact cells_new w [.int .i64 sq, .string pv, .string bd] _ 2 _ rfl
    rintro w3 ⟨⟨h0, h1', h2'⟩, hb3⟩
    have HB3 := Lib.hid hb3
    clear hb3
    go_wp2_with fail
    refine wp_region_puts2 (R := fun qi w' v => v = [Value.int .u64 0, .string (Oct.numB 0), .pointer (some ⟨w.heap.size, 1, none⟩), .string pv, .string (Oct.textB pv), .string t1, .pointer (some ⟨w.heap.size, 2, none⟩), .string bd, .string (Oct.textB bd), .string t2, .string t2].getD qi undef)
      (by kernel_rfl) (by kernel_rfl) (by kernel_rfl) ?hRR (by kernel_rfl) (steps_of ?hs) ?hd
    case hRR =>
      intro qi w1 w2 v hb hv
      exact hv
    case hs =>
      refine ⟨?_, ?_, ?_, ?_, ?_, ?_, ?_, ?_, ?_, ?_, ?_, trivial⟩
      · refine stepOk_value rfl fun a w5 ht => ?_
        have e3 : a.tmps[3]?.getD undef = .int .u64 0 := ht.old' 3 (.int .u64 0) (by kernel_rfl) rfl
        exact ⟨Value.int .u64 0, w5, by go_simp, Below.refl _ _, rfl⟩
      · refine stepOk_call rfl fun a w5 ht => ?_
        have e10 : a.tmps[10]?.getD undef = Value.int .u64 0 := ht.dep' 0 10 (by kernel_rfl) rfl
        refine ⟨89, #[.int .u64 0], by go_simp, (C1.out w5).mono ?_⟩
        rintro e w' ⟨rfl, hb⟩
        exact ⟨_, rfl, hb, rfl⟩
      · refine stepOk_value rfl fun a w5 ht => ?_
        have e1 : a.tmps[1]?.getD undef = .pointer (some ⟨w.heap.size, 0, none⟩) := ht.old' 1 (.pointer (some ⟨w.heap.size, 0, none⟩)) (by kernel_rfl) rfl
        exact ⟨.pointer (some ⟨w.heap.size, 1, none⟩), w5, by go_simp, Below.refl _ _, rfl⟩
      · refine stepOk_value rfl fun a w5 ht => ?_
        have e12 : a.tmps[12]?.getD undef = .pointer (some ⟨w.heap.size, 1, none⟩) := ht.dep' 2 12 (by kernel_rfl) rfl
        have hc := (ht.below.cell (p := ⟨w.heap.size, 1, none⟩) (World.block_lt_of_cell? _ _ h1')).trans h1'
        exact ⟨.string pv, w5, by go_simp, Below.refl _ _, rfl⟩
      · refine stepOk_call rfl fun a w5 ht => ?_
        have e13 : a.tmps[13]?.getD undef = .string pv := ht.dep' 3 13 (by kernel_rfl) rfl
        refine ⟨90, #[.string pv], by go_simp, (C2.out w5).mono ?_⟩
        rintro e w' ⟨rfl, hb⟩
        exact ⟨_, rfl, hb, rfl⟩
      · refine stepOk_value rfl fun a w5 ht => ?_
        have e11 : a.tmps[11]?.getD undef = .string (Oct.numB 0) := ht.dep' 1 11 (by kernel_rfl) rfl
        have e14 : a.tmps[14]?.getD undef = .string (Oct.textB pv) := ht.dep' 4 14 (by kernel_rfl) rfl
        exact ⟨.string t1, w5, by go_simp, Below.refl _ _, rfl⟩
      · refine stepOk_value rfl fun a w5 ht => ?_
        have e1 : a.tmps[1]?.getD undef = .pointer (some ⟨w.heap.size, 0, none⟩) := ht.old' 1 (.pointer (some ⟨w.heap.size, 0, none⟩)) (by kernel_rfl) rfl
        exact ⟨.pointer (some ⟨w.heap.size, 2, none⟩), w5, by go_simp, Below.refl _ _, rfl⟩
      · refine stepOk_value rfl fun a w5 ht => ?_
        have e16 : a.tmps[16]?.getD undef = .pointer (some ⟨w.heap.size, 2, none⟩) := ht.dep' 6 16 (by kernel_rfl) rfl
        have hc := (ht.below.cell (p := ⟨w.heap.size, 2, none⟩) (World.block_lt_of_cell? _ _ h2')).trans h2'
        exact ⟨.string bd, w5, by go_simp, Below.refl _ _, rfl⟩
      · refine stepOk_call rfl fun a w5 ht => ?_
        have e17 : a.tmps[17]?.getD undef = .string bd := ht.dep' 7 17 (by kernel_rfl) rfl
        refine ⟨90, #[.string bd], by go_simp, (C3.out w5).mono ?_⟩
        rintro e w' ⟨rfl, hb⟩
        exact ⟨_, rfl, hb, rfl⟩
      · refine stepOk_value rfl fun a w5 ht => ?_
        have e15 : a.tmps[15]?.getD undef = .string t1 := ht.dep' 5 15 (by kernel_rfl) rfl
        have e18 : a.tmps[18]?.getD undef = .string (Oct.textB bd) := ht.dep' 8 18 (by kernel_rfl) rfl
        exact ⟨.string t2, w5, by go_simp, Below.refl _ _, rfl⟩
      · refine stepOk_value rfl fun a w5 ht => ?_
        have e19 : a.tmps[19]?.getD undef = .string t2 := ht.dep' 9 19 (by kernel_rfl) rfl
        exact ⟨.string t2, w5, by go_simp, Below.refl _ _, rfl⟩
    case hd =>
      intro vs w8 hl hb8 hvs
      have hl : vs.length = 11 := hl
      obtain ⟨v0, r0, rfl, l0⟩ := uncons vs hl
      obtain ⟨v1, r1, rfl, l1⟩ := uncons r0 l0
      obtain ⟨v2, r2, rfl, l2⟩ := uncons r1 l1
      obtain ⟨v3, r3, rfl, l3⟩ := uncons r2 l2
      obtain ⟨v4, r4, rfl, l4⟩ := uncons r3 l3
      obtain ⟨v5, r5, rfl, l5⟩ := uncons r4 l4
      obtain ⟨v6, r6, rfl, l6⟩ := uncons r5 l5
      obtain ⟨v7, r7, rfl, l7⟩ := uncons r6 l6
      obtain ⟨v8, r8, rfl, l8⟩ := uncons r7 l7
      obtain ⟨v9, r9, rfl, l9⟩ := uncons r8 l8
      obtain ⟨v10, r10, rfl, l10⟩ := uncons r9 l9
      obtain rfl := List.eq_nil_of_length_eq_zero l10
      have h10 : v10 = .string t2 := hvs 10 (by decide)
      subst h10
      clear hvs
      simp only [puts, List.map, go_sem, List.setIfInBounds_toArray, List.set_cons_succ, List.set_cons_zero]
      go_wp2_with fail
      go_ret
      exact ⟨rfl, HB3.out.trans (hb8.mono HB3.out.size)⟩
theorem refFeedText_any (e : Fd.Ent) (h : e.ok) (w : World) :
    Calls Try.prog 74 #[e.val] w fun r w' => r = .returned (.string e.text) ∧ Below w.heap.size w w' := by
  obtain ⟨h1, h2, h3, h4, h5⟩ := h
  have a := numB_le (max e.seq 0).toNat
  have b := textB_le e.prev
  have c := textB_le e.body
  exact refFeedText_raw e.seq (max e.seq 0).toNat e.prev e.body _ e.text w (max_nat _) (by omega) h3 h4 rfl rfl (by omega) (by rw [ByteArray.size_append]; omega)
set_option maxRecDepth 100000 in
set_option maxHeartbeats 2000000 in
theorem refFeedHash_any {H : ByteArray → ByteArray} (hS : RefLaw H) (e : Fd.Ent) (h : e.ok) (w : World) :
    Calls Try.prog 51 #[e.val] w fun r w' => r = .returned (.string (H e.text)) ∧ Below w.heap.size w w' := by
  have C1 := Lib.hid (fun w => refFeedText_any e h w)
  have C2 := Lib.hid (fun w => hS.2 e.text (by have := text_size e h; omega) w)
  generalize e.text = t at *
  obtain ⟨sq, pv, bd⟩ := e
  unfold Fd.Ent.val at *
  simp only at C1 ⊢
  clear h
  go_enter Try.func51, Try.ntmps51
  go_upto_region 1 with fail
  refine name_world (fun w3 => (w3.cell? ⟨w.heap.size, 0, none⟩ = some (.int .i64 sq) ∧ w3.cell? ⟨w.heap.size, 1, none⟩ = some (.string pv) ∧ w3.cell? ⟨w.heap.size, 2, none⟩ = some (.string bd)) ∧ Below w.heap.size w w3) ⟨⟨?_, ?_, ?_⟩, (Below.refl _ w).alloc (Nat.le_refl _) _⟩ ?_
  · exact cells_new w [.int .i64 sq, .string pv, .string bd] _ 0 _ rfl
  · exact cells_new w [.int .i64 sq, .string pv, .string bd] _ 1 _ rfl
  · exact cells_new w [.int .i64 sq, .string pv, .string bd] _ 2 _ rfl
  rintro w3 ⟨⟨h0, h1', h2'⟩, hb3⟩
  have HB3 := Lib.hid hb3
  clear hb3
  go_wp2_with fail
  refine (C1.out _).mono ?_
  rintro e w4 ⟨rfl, hb4⟩
  have HB4 := Lib.hid (HB3.out.trans (hb4.mono HB3.out.size))
  clear hb4
  go_wp2_with fail
  refine (C2.out _).mono ?_
  rintro e w5 ⟨rfl, hb5⟩
  go_wp2_with fail
  go_ret
  exact ⟨rfl, HB4.out.trans (hb5.mono HB4.out.size)⟩
end Go.Proofs.Ytbajgpbekanodaa
