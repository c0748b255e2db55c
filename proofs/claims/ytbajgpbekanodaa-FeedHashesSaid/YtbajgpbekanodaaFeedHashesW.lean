/- The walk over pandectlaw39's FeedHashes. -/
import Derived.Test.YtbajgpbekanodaaFeedRefClash
import Derived.Test.YtbajgpbekanodaaFeedAwake
import Derived.Test.YtbajgpbekanodaaDigRefSum
import Derived.Test.YtbajgpbekanodaaOpenEnts
namespace Go.Proofs.Ytbajgpbekanodaa
open Go.RowKit

theorem ent_new (w : World) (e : Fd.Ent) : EntsAt (w.alloc (.cells #[.int .i64 e.seq, .string e.prev, .string e.body] 82)) (some ⟨w.heap.size, 0, none⟩) [e] := fun i hi => by
  obtain rfl : i = 0 := by simpa using hi
  exact ⟨w.heap.size, 0, rfl, by simp, cells_new w [.int .i64 e.seq, .string e.prev, .string e.body] _ 0 _ rfl, cells_new w [.int .i64 e.seq, .string e.prev, .string e.body] _ 1 _ rfl, cells_new w [.int .i64 e.seq, .string e.prev, .string e.body] _ 2 _ rfl⟩
theorem ref_law39 : RefLaw shaB := ⟨shaB_size, fun s hs w => refSum_any s hs w⟩
set_option maxRecDepth 100000 in
set_option maxHeartbeats 4000000 in
theorem hashesF_1 (xs : Int) (xp xb : ByteArray) (ao bo : Option Addr) (n m c1 c2 : Nat) (w : World)
    (F1 : Hid (∀ (eo : Option Addr) (w' : World), EntsAt w' eo [⟨xs, xp, xb⟩] → Calls Try.prog 33 #[.slice eo 1 1] w' fun e w'' => e = .returned (.bool false) ∧ Below w'.heap.size w' w'')) :
    Calls Try.prog 14 #[.agg #[.int .i64 xs, .string xp, .string xb], .slice ao n c1, .slice bo m c2] w fun e w' => e = .returned (.bool true) ∧ Below w.heap.size w w' := by
  go_enter Try.func14, Try.ntmps14
  go_upto_region 1 with fail
  refine name_world (fun w3 => (w3.cell? ⟨w.heap.size, 0, none⟩ = some (.int .i64 xs) ∧ w3.cell? ⟨w.heap.size, 1, none⟩ = some (.string xp) ∧ w3.cell? ⟨w.heap.size, 2, none⟩ = some (.string xb)) ∧ Below w.heap.size w w3) ⟨⟨?_, ?_, ?_⟩, (Below.refl _ w).alloc (Nat.le_refl _) _⟩ ?_
  · exact cells_new w [.int .i64 xs, .string xp, .string xb] _ 0 _ rfl
  · exact cells_new w [.int .i64 xs, .string xp, .string xb] _ 1 _ rfl
  · exact cells_new w [.int .i64 xs, .string xp, .string xb] _ 2 _ rfl
  rintro w3 ⟨⟨hx0, hx1, hx2⟩, hb3⟩
  have HB3 := Lib.hid hb3
  clear hb3
  obtain ⟨X, hX⟩ : ∃ X, X = w.heap.size := ⟨_, rfl⟩
  rw [← hX] at hx0 hx1 hx2 ⊢
  have HX := Lib.hid hX
  clear hX
  go_wp2_with fail
  refine (F1.out _ _ (ent_new w3 ⟨xs, xp, xb⟩)).mono ?_
  rintro e w4 ⟨rfl, hb4⟩
  have hk4 : Below w3.heap.size w3 w4 := ((Below.refl _ w3).alloc (Nat.le_refl _) _).trans (hb4.mono (by simp))
  have hx0 := (hk4.cell (World.block_lt_of_cell? _ _ hx0)).trans hx0
  have hx1 := (hk4.cell (World.block_lt_of_cell? _ _ hx1)).trans hx1
  have hx2 := (hk4.cell (World.block_lt_of_cell? _ _ hx2)).trans hx2
  have HB4 : Hid (Below X w w4) := by show Below X w w4; rw [HX.out]; exact HB3.out.trans (hk4.mono HB3.out.size)
  have HBB4 : Hid (Below w.heap.size w w4) := HX.out ▸ HB4.out
  clear hb4 hk4 HB3 F1 HB4
  go_wp2_with fail
  refine (awake39_any _).mono ?_
  rintro e w5 ⟨rfl, hb⟩
  have HBB5 : Hid (Below w.heap.size w w5) := HBB4.out.trans (hb.mono HBB4.out.size)
  clear hb HBB4
  go_wp2_with fail
  go_ret
  exact ⟨rfl, HBB5.out⟩

set_option maxRecDepth 100000 in
set_option maxHeartbeats 4000000 in
theorem hashesF_2 (xs : Int) (xp xb : ByteArray) (ao bo : Option Addr) (n m c1 c2 : Nat) (w : World)
    (F1 : Hid (∀ (eo : Option Addr) (w' : World), EntsAt w' eo [⟨xs, xp, xb⟩] → Calls Try.prog 33 #[.slice eo 1 1] w' fun e w'' => e = .returned (.bool true) ∧ Below w'.heap.size w' w''))
    (F2 : Hid (∀ (w' : World), Below w.heap.size w w' → Calls Try.prog 33 #[.slice ao n c1] w' fun e w'' => e = .returned (.bool false) ∧ Below w'.heap.size w' w'')) :
    Calls Try.prog 14 #[.agg #[.int .i64 xs, .string xp, .string xb], .slice ao n c1, .slice bo m c2] w fun e w' => e = .returned (.bool true) ∧ Below w.heap.size w w' := by
  go_enter Try.func14, Try.ntmps14
  go_upto_region 1 with fail
  refine name_world (fun w3 => (w3.cell? ⟨w.heap.size, 0, none⟩ = some (.int .i64 xs) ∧ w3.cell? ⟨w.heap.size, 1, none⟩ = some (.string xp) ∧ w3.cell? ⟨w.heap.size, 2, none⟩ = some (.string xb)) ∧ Below w.heap.size w w3) ⟨⟨?_, ?_, ?_⟩, (Below.refl _ w).alloc (Nat.le_refl _) _⟩ ?_
  · exact cells_new w [.int .i64 xs, .string xp, .string xb] _ 0 _ rfl
  · exact cells_new w [.int .i64 xs, .string xp, .string xb] _ 1 _ rfl
  · exact cells_new w [.int .i64 xs, .string xp, .string xb] _ 2 _ rfl
  rintro w3 ⟨⟨hx0, hx1, hx2⟩, hb3⟩
  have HB3 := Lib.hid hb3
  clear hb3
  obtain ⟨X, hX⟩ : ∃ X, X = w.heap.size := ⟨_, rfl⟩
  rw [← hX] at hx0 hx1 hx2 ⊢
  have HX := Lib.hid hX
  clear hX
  go_wp2_with fail
  refine (F1.out _ _ (ent_new w3 ⟨xs, xp, xb⟩)).mono ?_
  rintro e w4 ⟨rfl, hb4⟩
  have hk4 : Below w3.heap.size w3 w4 := ((Below.refl _ w3).alloc (Nat.le_refl _) _).trans (hb4.mono (by simp))
  have hx0 := (hk4.cell (World.block_lt_of_cell? _ _ hx0)).trans hx0
  have hx1 := (hk4.cell (World.block_lt_of_cell? _ _ hx1)).trans hx1
  have hx2 := (hk4.cell (World.block_lt_of_cell? _ _ hx2)).trans hx2
  have HB4 : Hid (Below X w w4) := by show Below X w w4; rw [HX.out]; exact HB3.out.trans (hk4.mono HB3.out.size)
  have HBB4 : Hid (Below w.heap.size w w4) := HX.out ▸ HB4.out
  clear hb4 hk4 HB3 F1 HB4
  go_wp2_with fail
  refine (F2.out _ HBB4.out).mono ?_
  rintro e w5 ⟨rfl, hb⟩
  have hx0 := (hb.cell (World.block_lt_of_cell? _ _ hx0)).trans hx0
  have hx1 := (hb.cell (World.block_lt_of_cell? _ _ hx1)).trans hx1
  have hx2 := (hb.cell (World.block_lt_of_cell? _ _ hx2)).trans hx2
  have HBB5 : Hid (Below w.heap.size w w5) := HBB4.out.trans (hb.mono HBB4.out.size)
  clear hb F2 HBB4
  go_wp2_with fail
  refine (awake39_any _).mono ?_
  rintro e w6 ⟨rfl, hb⟩
  have HBB6 : Hid (Below w.heap.size w w6) := HBB5.out.trans (hb.mono HBB5.out.size)
  clear hb HBB5
  go_wp2_with fail
  go_ret
  exact ⟨rfl, HBB6.out⟩

set_option maxRecDepth 100000 in
set_option maxHeartbeats 4000000 in
theorem hashesF_3 (xs : Int) (xp xb : ByteArray) (ao bo : Option Addr) (n m c1 c2 : Nat) (w : World)
    (F1 : Hid (∀ (eo : Option Addr) (w' : World), EntsAt w' eo [⟨xs, xp, xb⟩] → Calls Try.prog 33 #[.slice eo 1 1] w' fun e w'' => e = .returned (.bool true) ∧ Below w'.heap.size w' w''))
    (F2 : Hid (∀ (w' : World), Below w.heap.size w w' → Calls Try.prog 33 #[.slice ao n c1] w' fun e w'' => e = .returned (.bool true) ∧ Below w'.heap.size w' w''))
    (F3 : Hid (∀ (w' : World), Below w.heap.size w w' → Calls Try.prog 33 #[.slice bo m c2] w' fun e w'' => e = .returned (.bool false) ∧ Below w'.heap.size w' w'')) :
    Calls Try.prog 14 #[.agg #[.int .i64 xs, .string xp, .string xb], .slice ao n c1, .slice bo m c2] w fun e w' => e = .returned (.bool true) ∧ Below w.heap.size w w' := by
  go_enter Try.func14, Try.ntmps14
  go_upto_region 1 with fail
  refine name_world (fun w3 => (w3.cell? ⟨w.heap.size, 0, none⟩ = some (.int .i64 xs) ∧ w3.cell? ⟨w.heap.size, 1, none⟩ = some (.string xp) ∧ w3.cell? ⟨w.heap.size, 2, none⟩ = some (.string xb)) ∧ Below w.heap.size w w3) ⟨⟨?_, ?_, ?_⟩, (Below.refl _ w).alloc (Nat.le_refl _) _⟩ ?_
  · exact cells_new w [.int .i64 xs, .string xp, .string xb] _ 0 _ rfl
  · exact cells_new w [.int .i64 xs, .string xp, .string xb] _ 1 _ rfl
  · exact cells_new w [.int .i64 xs, .string xp, .string xb] _ 2 _ rfl
  rintro w3 ⟨⟨hx0, hx1, hx2⟩, hb3⟩
  have HB3 := Lib.hid hb3
  clear hb3
  obtain ⟨X, hX⟩ : ∃ X, X = w.heap.size := ⟨_, rfl⟩
  rw [← hX] at hx0 hx1 hx2 ⊢
  have HX := Lib.hid hX
  clear hX
  go_wp2_with fail
  refine (F1.out _ _ (ent_new w3 ⟨xs, xp, xb⟩)).mono ?_
  rintro e w4 ⟨rfl, hb4⟩
  have hk4 : Below w3.heap.size w3 w4 := ((Below.refl _ w3).alloc (Nat.le_refl _) _).trans (hb4.mono (by simp))
  have hx0 := (hk4.cell (World.block_lt_of_cell? _ _ hx0)).trans hx0
  have hx1 := (hk4.cell (World.block_lt_of_cell? _ _ hx1)).trans hx1
  have hx2 := (hk4.cell (World.block_lt_of_cell? _ _ hx2)).trans hx2
  have HB4 : Hid (Below X w w4) := by show Below X w w4; rw [HX.out]; exact HB3.out.trans (hk4.mono HB3.out.size)
  have HBB4 : Hid (Below w.heap.size w w4) := HX.out ▸ HB4.out
  clear hb4 hk4 HB3 F1 HB4
  go_wp2_with fail
  refine (F2.out _ HBB4.out).mono ?_
  rintro e w5 ⟨rfl, hb⟩
  have hx0 := (hb.cell (World.block_lt_of_cell? _ _ hx0)).trans hx0
  have hx1 := (hb.cell (World.block_lt_of_cell? _ _ hx1)).trans hx1
  have hx2 := (hb.cell (World.block_lt_of_cell? _ _ hx2)).trans hx2
  have HBB5 : Hid (Below w.heap.size w w5) := HBB4.out.trans (hb.mono HBB4.out.size)
  clear hb F2 HBB4
  go_wp2_with fail
  refine (F3.out _ HBB5.out).mono ?_
  rintro e w6 ⟨rfl, hb⟩
  have hx0 := (hb.cell (World.block_lt_of_cell? _ _ hx0)).trans hx0
  have hx1 := (hb.cell (World.block_lt_of_cell? _ _ hx1)).trans hx1
  have hx2 := (hb.cell (World.block_lt_of_cell? _ _ hx2)).trans hx2
  have HBB6 : Hid (Below w.heap.size w w6) := HBB5.out.trans (hb.mono HBB5.out.size)
  clear hb F3 HBB5
  go_wp2_with fail
  refine (awake39_any _).mono ?_
  rintro e w7 ⟨rfl, hb⟩
  have HBB7 : Hid (Below w.heap.size w w7) := HBB6.out.trans (hb.mono HBB6.out.size)
  clear hb HBB6
  go_wp2_with fail
  go_ret
  exact ⟨rfl, HBB7.out⟩

set_option maxRecDepth 100000 in
set_option maxHeartbeats 4000000 in
theorem hashesF_4 (xs : Int) (xp xb h s t : ByteArray) (k : Bool) (ao bo : Option Addr) (n m c1 c2 : Nat) (w : World)
    (F1 : Hid (∀ (eo : Option Addr) (w' : World), EntsAt w' eo [⟨xs, xp, xb⟩] → Calls Try.prog 33 #[.slice eo 1 1] w' fun e w'' => e = .returned (.bool true) ∧ Below w'.heap.size w' w''))
    (F2 : Hid (∀ (w' : World), Below w.heap.size w w' → Calls Try.prog 33 #[.slice ao n c1] w' fun e w'' => e = .returned (.bool true) ∧ Below w'.heap.size w' w''))
    (F3 : Hid (∀ (w' : World), Below w.heap.size w w' → Calls Try.prog 33 #[.slice bo m c2] w' fun e w'' => e = .returned (.bool true) ∧ Below w'.heap.size w' w''))
    (CC : Hid (∀ (w' : World), Below w.heap.size w w' → Calls Try.prog 39 #[.slice ao n c1, .slice bo m c2] w' fun e w'' => e = .returned (.tuple #[.string s, .string t, .bool k]) ∧ Below w'.heap.size w' w''))
    (CD : Hid (∀ (w' : World), Below w.heap.size w w' → Calls Try.prog 50 #[.slice ao n c1, .slice bo m c2] w' fun e w'' => e = .returned (.tuple #[.string s, .string t, .bool k]) ∧ Below w'.heap.size w' w''))
    (CH : Hid (∀ (w' : World), Calls Try.prog 49 #[.agg #[.int .i64 xs, .string xp, .string xb]] w' fun e w'' => e = .returned (.string h) ∧ Below w'.heap.size w' w''))
    (CR : Hid (∀ (w' : World), Calls Try.prog 51 #[.agg #[.int .i64 xs, .string xp, .string xb]] w' fun e w'' => e = .returned (.string h) ∧ Below w'.heap.size w' w'')) :
    Calls Try.prog 14 #[.agg #[.int .i64 xs, .string xp, .string xb], .slice ao n c1, .slice bo m c2] w fun e w' => e = .returned (.bool true) ∧ Below w.heap.size w w' := by
  have hss : (s.toList == s.toList) = true := by simp
  have htt : (t.toList == t.toList) = true := by simp
  have hhh : (h.toList == h.toList) = true := by simp
  have hkk : (k == k) = true := by simp
  go_enter Try.func14, Try.ntmps14
  go_upto_region 1 with fail
  refine name_world (fun w3 => (w3.cell? ⟨w.heap.size, 0, none⟩ = some (.int .i64 xs) ∧ w3.cell? ⟨w.heap.size, 1, none⟩ = some (.string xp) ∧ w3.cell? ⟨w.heap.size, 2, none⟩ = some (.string xb)) ∧ Below w.heap.size w w3) ⟨⟨?_, ?_, ?_⟩, (Below.refl _ w).alloc (Nat.le_refl _) _⟩ ?_
  · exact cells_new w [.int .i64 xs, .string xp, .string xb] _ 0 _ rfl
  · exact cells_new w [.int .i64 xs, .string xp, .string xb] _ 1 _ rfl
  · exact cells_new w [.int .i64 xs, .string xp, .string xb] _ 2 _ rfl
  rintro w3 ⟨⟨hx0, hx1, hx2⟩, hb3⟩
  have HB3 := Lib.hid hb3
  clear hb3
  obtain ⟨X, hX⟩ : ∃ X, X = w.heap.size := ⟨_, rfl⟩
  rw [← hX] at hx0 hx1 hx2 ⊢
  have HX := Lib.hid hX
  clear hX
  go_wp2_with fail
  refine (F1.out _ _ (ent_new w3 ⟨xs, xp, xb⟩)).mono ?_
  rintro e w4 ⟨rfl, hb4⟩
  have hk4 : Below w3.heap.size w3 w4 := ((Below.refl _ w3).alloc (Nat.le_refl _) _).trans (hb4.mono (by simp))
  have hx0 := (hk4.cell (World.block_lt_of_cell? _ _ hx0)).trans hx0
  have hx1 := (hk4.cell (World.block_lt_of_cell? _ _ hx1)).trans hx1
  have hx2 := (hk4.cell (World.block_lt_of_cell? _ _ hx2)).trans hx2
  have HB4 : Hid (Below X w w4) := by show Below X w w4; rw [HX.out]; exact HB3.out.trans (hk4.mono HB3.out.size)
  have HBB4 : Hid (Below w.heap.size w w4) := HX.out ▸ HB4.out
  clear hb4 hk4 HB3 F1 HB4
  go_wp2_with fail
  refine (F2.out _ HBB4.out).mono ?_
  rintro e w5 ⟨rfl, hb⟩
  have hx0 := (hb.cell (World.block_lt_of_cell? _ _ hx0)).trans hx0
  have hx1 := (hb.cell (World.block_lt_of_cell? _ _ hx1)).trans hx1
  have hx2 := (hb.cell (World.block_lt_of_cell? _ _ hx2)).trans hx2
  have HBB5 : Hid (Below w.heap.size w w5) := HBB4.out.trans (hb.mono HBB4.out.size)
  clear hb F2 HBB4
  go_wp2_with fail
  refine (F3.out _ HBB5.out).mono ?_
  rintro e w6 ⟨rfl, hb⟩
  have hx0 := (hb.cell (World.block_lt_of_cell? _ _ hx0)).trans hx0
  have hx1 := (hb.cell (World.block_lt_of_cell? _ _ hx1)).trans hx1
  have hx2 := (hb.cell (World.block_lt_of_cell? _ _ hx2)).trans hx2
  have HBB6 : Hid (Below w.heap.size w w6) := HBB5.out.trans (hb.mono HBB5.out.size)
  clear hb F3 HBB5
  go_wp2_with fail
  refine (CC.out _ HBB6.out).mono ?_
  rintro e w7 ⟨rfl, hb⟩
  have hx0 := (hb.cell (World.block_lt_of_cell? _ _ hx0)).trans hx0
  have hx1 := (hb.cell (World.block_lt_of_cell? _ _ hx1)).trans hx1
  have hx2 := (hb.cell (World.block_lt_of_cell? _ _ hx2)).trans hx2
  have HBB7 : Hid (Below w.heap.size w w7) := HBB6.out.trans (hb.mono HBB6.out.size)
  clear hb CC HBB6
  go_wp2_with fail
  refine (CD.out _ HBB7.out).mono ?_
  rintro e w8 ⟨rfl, hb⟩
  have hx0 := (hb.cell (World.block_lt_of_cell? _ _ hx0)).trans hx0
  have hx1 := (hb.cell (World.block_lt_of_cell? _ _ hx1)).trans hx1
  have hx2 := (hb.cell (World.block_lt_of_cell? _ _ hx2)).trans hx2
  have HBB8 : Hid (Below w.heap.size w w8) := HBB7.out.trans (hb.mono HBB7.out.size)
  clear hb CD HBB7
  go_wp2_with fail
  refine wp_region_puts2 (R := fun qi w' v => v = [Value.agg #[.int .i64 xs, .string xp, .string xb], .string h, .agg #[.int .i64 xs, .string xp, .string xb], .string h, .bool true, .bool true, .string s, .string s, .bool true, .bool true, .bool true, .string t, .string t, .bool true, .bool true, .bool true, .bool k, .bool k, .bool true, .bool true, .bool true, .bool true, .bool true, .bool true].getD qi undef)
    (by kernel_rfl) (by kernel_rfl) (by kernel_rfl) ?hRR (by kernel_rfl) (steps_of ?hs) ?hd
  case hRR =>
    intro qi w1 w2 v hb hv
    exact hv
  case hs =>
    refine ⟨?_, ?_, ?_, ?_, ?_, ?_, ?_, ?_, ?_, ?_, ?_, ?_, ?_, ?_, ?_, ?_, ?_, ?_, ?_, ?_, ?_, ?_, ?_, ?_, trivial⟩
    · refine stepOk_value rfl fun a w5 ht => ?_
      have e3 : a.tmps[3]?.getD undef = .pointer (some ⟨X, 0, none⟩) := ht.old' 3 (.pointer (some ⟨X, 0, none⟩)) (by kernel_rfl) rfl
      have hc0 := (ht.below.cell (p := ⟨X, 0, none⟩) (World.block_lt_of_cell? _ _ hx0)).trans hx0
      have hc1 := (ht.below.cell (p := ⟨X, 1, none⟩) (World.block_lt_of_cell? _ _ hx1)).trans hx1
      have hc2 := (ht.below.cell (p := ⟨X, 2, none⟩) (World.block_lt_of_cell? _ _ hx2)).trans hx2
      exact ⟨Value.agg #[.int .i64 xs, .string xp, .string xb], w5, by go_simp, Below.refl _ _, rfl⟩
    · refine stepOk_call rfl fun a w5 ht => ?_
      have e42 : a.tmps[42]?.getD undef = Value.agg #[.int .i64 xs, .string xp, .string xb] := ht.dep' 0 42 (by kernel_rfl) rfl
      refine ⟨49, #[.agg #[.int .i64 xs, .string xp, .string xb]], by go_simp, (CH.out w5).mono ?_⟩
      rintro e w' ⟨rfl, hb⟩
      exact ⟨_, rfl, hb, rfl⟩
    · refine stepOk_value rfl fun a w5 ht => ?_
      have e3 : a.tmps[3]?.getD undef = .pointer (some ⟨X, 0, none⟩) := ht.old' 3 (.pointer (some ⟨X, 0, none⟩)) (by kernel_rfl) rfl
      have hc0 := (ht.below.cell (p := ⟨X, 0, none⟩) (World.block_lt_of_cell? _ _ hx0)).trans hx0
      have hc1 := (ht.below.cell (p := ⟨X, 1, none⟩) (World.block_lt_of_cell? _ _ hx1)).trans hx1
      have hc2 := (ht.below.cell (p := ⟨X, 2, none⟩) (World.block_lt_of_cell? _ _ hx2)).trans hx2
      exact ⟨.agg #[.int .i64 xs, .string xp, .string xb], w5, by go_simp, Below.refl _ _, rfl⟩
    · refine stepOk_call rfl fun a w5 ht => ?_
      have e44 : a.tmps[44]?.getD undef = .agg #[.int .i64 xs, .string xp, .string xb] := ht.dep' 2 44 (by kernel_rfl) rfl
      refine ⟨51, #[.agg #[.int .i64 xs, .string xp, .string xb]], by go_simp, (CR.out w5).mono ?_⟩
      rintro e w' ⟨rfl, hb⟩
      exact ⟨_, rfl, hb, rfl⟩
    · refine stepOk_value rfl fun a w5 ht => ?_
      have e43 : a.tmps[43]?.getD undef = .string h := ht.dep' 1 43 (by kernel_rfl) rfl
      have e45 : a.tmps[45]?.getD undef = .string h := ht.dep' 3 45 (by kernel_rfl) rfl
      exact ⟨.bool true, w5, by go_simp, Below.refl _ _, rfl⟩
    · refine stepOk_value rfl fun a w5 ht => ?_
      have e46 : a.tmps[46]?.getD undef = .bool true := ht.dep' 4 46 (by kernel_rfl) rfl
      exact ⟨.bool true, w5, by go_simp, Below.refl _ _, rfl⟩
    · refine stepOk_value_guarded 5 47 true rfl (by kernel_rfl) rfl (Nat.le_of_ble_eq_true rfl) (fun w v h => h) fun a w5 ht => ?_
      have e7 : a.tmps[7]?.getD undef = .string s := ht.old' 7 (.string s) (by kernel_rfl) rfl
      exact ⟨.string s, w5, by go_simp, Below.refl _ _, rfl⟩
    · refine stepOk_value_guarded 5 47 true rfl (by kernel_rfl) rfl (Nat.le_of_ble_eq_true rfl) (fun w v h => h) fun a w5 ht => ?_
      have e10 : a.tmps[10]?.getD undef = .string s := ht.old' 10 (.string s) (by kernel_rfl) rfl
      exact ⟨.string s, w5, by go_simp, Below.refl _ _, rfl⟩
    · refine stepOk_value_guarded 5 47 true rfl (by kernel_rfl) rfl (Nat.le_of_ble_eq_true rfl) (fun w v h => h) fun a w5 ht => ?_
      have e48 : a.tmps[48]?.getD undef = .string s := ht.dep' 6 48 (by kernel_rfl) rfl
      have e49 : a.tmps[49]?.getD undef = .string s := ht.dep' 7 49 (by kernel_rfl) rfl
      exact ⟨.bool true, w5, by go_simp, Below.refl _ _, rfl⟩
    · refine stepOk_value rfl fun a w5 ht => ?_
      have e47 : a.tmps[47]?.getD undef = .bool true := ht.dep' 5 47 (by kernel_rfl) rfl
      have e50 : a.tmps[50]?.getD undef = .bool true := ht.dep' 8 50 (by kernel_rfl) rfl
      exact ⟨.bool true, w5, by go_simp, Below.refl _ _, rfl⟩
    · refine stepOk_value rfl fun a w5 ht => ?_
      have e51 : a.tmps[51]?.getD undef = .bool true := ht.dep' 9 51 (by kernel_rfl) rfl
      exact ⟨.bool true, w5, by go_simp, Below.refl _ _, rfl⟩
    · refine stepOk_value_guarded 10 52 true rfl (by kernel_rfl) rfl (Nat.le_of_ble_eq_true rfl) (fun w v h => h) fun a w5 ht => ?_
      have e8 : a.tmps[8]?.getD undef = .string t := ht.old' 8 (.string t) (by kernel_rfl) rfl
      exact ⟨.string t, w5, by go_simp, Below.refl _ _, rfl⟩
    · refine stepOk_value_guarded 10 52 true rfl (by kernel_rfl) rfl (Nat.le_of_ble_eq_true rfl) (fun w v h => h) fun a w5 ht => ?_
      have e11 : a.tmps[11]?.getD undef = .string t := ht.old' 11 (.string t) (by kernel_rfl) rfl
      exact ⟨.string t, w5, by go_simp, Below.refl _ _, rfl⟩
    · refine stepOk_value_guarded 10 52 true rfl (by kernel_rfl) rfl (Nat.le_of_ble_eq_true rfl) (fun w v h => h) fun a w5 ht => ?_
      have e53 : a.tmps[53]?.getD undef = .string t := ht.dep' 11 53 (by kernel_rfl) rfl
      have e54 : a.tmps[54]?.getD undef = .string t := ht.dep' 12 54 (by kernel_rfl) rfl
      exact ⟨.bool true, w5, by go_simp, Below.refl _ _, rfl⟩
    · refine stepOk_value rfl fun a w5 ht => ?_
      have e52 : a.tmps[52]?.getD undef = .bool true := ht.dep' 10 52 (by kernel_rfl) rfl
      have e55 : a.tmps[55]?.getD undef = .bool true := ht.dep' 13 55 (by kernel_rfl) rfl
      exact ⟨.bool true, w5, by go_simp, Below.refl _ _, rfl⟩
    · refine stepOk_value rfl fun a w5 ht => ?_
      have e56 : a.tmps[56]?.getD undef = .bool true := ht.dep' 14 56 (by kernel_rfl) rfl
      exact ⟨.bool true, w5, by go_simp, Below.refl _ _, rfl⟩
    · refine stepOk_value_guarded 15 57 true rfl (by kernel_rfl) rfl (Nat.le_of_ble_eq_true rfl) (fun w v h => h) fun a w5 ht => ?_
      have e9 : a.tmps[9]?.getD undef = .bool k := ht.old' 9 (.bool k) (by kernel_rfl) rfl
      exact ⟨.bool k, w5, by go_simp, Below.refl _ _, rfl⟩
    · refine stepOk_value_guarded 15 57 true rfl (by kernel_rfl) rfl (Nat.le_of_ble_eq_true rfl) (fun w v h => h) fun a w5 ht => ?_
      have e12 : a.tmps[12]?.getD undef = .bool k := ht.old' 12 (.bool k) (by kernel_rfl) rfl
      exact ⟨.bool k, w5, by go_simp, Below.refl _ _, rfl⟩
    · refine stepOk_value_guarded 15 57 true rfl (by kernel_rfl) rfl (Nat.le_of_ble_eq_true rfl) (fun w v h => h) fun a w5 ht => ?_
      have e58 : a.tmps[58]?.getD undef = .bool k := ht.dep' 16 58 (by kernel_rfl) rfl
      have e59 : a.tmps[59]?.getD undef = .bool k := ht.dep' 17 59 (by kernel_rfl) rfl
      exact ⟨.bool true, w5, by go_simp, Below.refl _ _, rfl⟩
    · refine stepOk_value rfl fun a w5 ht => ?_
      have e57 : a.tmps[57]?.getD undef = .bool true := ht.dep' 15 57 (by kernel_rfl) rfl
      have e60 : a.tmps[60]?.getD undef = .bool true := ht.dep' 18 60 (by kernel_rfl) rfl
      exact ⟨.bool true, w5, by go_simp, Below.refl _ _, rfl⟩
    · refine stepOk_value rfl fun a w5 ht => ?_
      have e61 : a.tmps[61]?.getD undef = .bool true := ht.dep' 19 61 (by kernel_rfl) rfl
      exact ⟨.bool true, w5, by go_simp, Below.refl _ _, rfl⟩
    · refine stepOk_call_guarded 20 62 true rfl (by kernel_rfl) rfl (Nat.le_of_ble_eq_true rfl) (fun w v h => h) fun a w5 ht => ?_
      refine ⟨34, #[], by go_simp, (awake39_any w5).mono ?_⟩
      rintro e w' ⟨rfl, hb⟩
      exact ⟨_, rfl, hb, rfl⟩
    · refine stepOk_value rfl fun a w5 ht => ?_
      have e62 : a.tmps[62]?.getD undef = .bool true := ht.dep' 20 62 (by kernel_rfl) rfl
      have e63 : a.tmps[63]?.getD undef = .bool true := ht.dep' 21 63 (by kernel_rfl) rfl
      exact ⟨.bool true, w5, by go_simp, Below.refl _ _, rfl⟩
    · refine stepOk_value rfl fun a w5 ht => ?_
      have e64 : a.tmps[64]?.getD undef = .bool true := ht.dep' 22 64 (by kernel_rfl) rfl
      exact ⟨.bool true, w5, by go_simp, Below.refl _ _, rfl⟩
  case hd =>
    intro vs w8 hl hb8 hvs
    have hl : vs.length = 24 := hl
    obtain ⟨v0, r0, rfl, l0⟩ := uncons vs hl
    obtain ⟨v1, r1, rfl, l1⟩ := uncons r0 l0
    obtain ⟨v2, r2, rfl, l2⟩ := uncons r1 l1
    obtain ⟨v3, r3, rfl, l3⟩ := uncons r2 l2
    obtain ⟨v4, r4, rfl, l4⟩ := uncons r3 l3
    obtain ⟨v5, r5, rfl, l5⟩ := uncons r4 l4
    obtain ⟨v6, r6, rfl, l6⟩ := uncons r5 l5
    obtain ⟨v7, r7, rfl, l7⟩ := uncons r6 l6
    obtain ⟨v8, r8, rfl, l8⟩ := uncons r7 l7
    obtain ⟨v9, r9, rfl, l9⟩ := uncons r8 l8
    obtain ⟨v10, r10, rfl, l10⟩ := uncons r9 l9
    obtain ⟨v11, r11, rfl, l11⟩ := uncons r10 l10
    obtain ⟨v12, r12, rfl, l12⟩ := uncons r11 l11
    obtain ⟨v13, r13, rfl, l13⟩ := uncons r12 l12
    obtain ⟨v14, r14, rfl, l14⟩ := uncons r13 l13
    obtain ⟨v15, r15, rfl, l15⟩ := uncons r14 l14
    obtain ⟨v16, r16, rfl, l16⟩ := uncons r15 l15
    obtain ⟨v17, r17, rfl, l17⟩ := uncons r16 l16
    obtain ⟨v18, r18, rfl, l18⟩ := uncons r17 l17
    obtain ⟨v19, r19, rfl, l19⟩ := uncons r18 l18
    obtain ⟨v20, r20, rfl, l20⟩ := uncons r19 l19
    obtain ⟨v21, r21, rfl, l21⟩ := uncons r20 l20
    obtain ⟨v22, r22, rfl, l22⟩ := uncons r21 l21
    obtain ⟨v23, r23, rfl, l23⟩ := uncons r22 l22
    obtain rfl := List.eq_nil_of_length_eq_zero l23
    have h23 : v23 = .bool true := hvs 23 (by decide)
    subst h23
    clear hvs
    simp only [puts, List.map, go_sem, List.setIfInBounds_toArray, List.set_cons_succ, List.set_cons_zero]
    have HBB9 : Hid (Below w.heap.size w w8) := HBB8.out.trans (hb8.mono HBB8.out.size)
    clear hb8 HBB8 hx0 hx1 hx2
    go_wp2_with fail
    go_ret
    exact ⟨rfl, HBB9.out⟩
theorem feedHashes_walk (xs : Int) (xp xb : ByteArray) (ao : Option Addr) (c1 : Nat) (a : List Fd.Ent) (bo : Option Addr) (c2 : Nat) (b : List Fd.Ent) (w : World) (hx : EntMost ⟨xs, xp, xb⟩) (hca : EntsAt w ao a) (hma : EntsMost a) (hfa : a.length ≤ c1 ∧ c1 ≤ maxLen) (hcb : EntsAt w bo b) (hmb : EntsMost b) (hfb : b.length ≤ c2 ∧ c2 ≤ maxLen) :
    Calls Try.prog 14 #[.agg #[.int .i64 xs, .string xp, .string xb], .slice ao a.length c1, .slice bo b.length c2] w fun e w' => e = .returned (.bool true) ∧ Below w.heap.size w w' := by
  have hx1 : EntsMost [⟨xs, xp, xb⟩] := fun e he => by rw [List.mem_singleton.1 he]; exact hx
  have hla : (a.length : Int) ≤ 9223372036854775807 := by have h1 := hfa.1; have h2 := hfa.2; unfold maxLen at h2; omega
  have hlb : (b.length : Int) ≤ 9223372036854775807 := by have h1 := hfb.1; have h2 := hfb.2; unfold maxLen at h2; omega
  have F1 : Hid (∀ (eo : Option Addr) (w' : World), EntsAt w' eo [⟨xs, xp, xb⟩] → Calls Try.prog 33 #[.slice eo 1 1] w' fun e w'' => e = .returned (.bool (fewB [⟨xs, xp, xb⟩])) ∧ Below w'.heap.size w' w'') := fun eo w' h => few_any [⟨xs, xp, xb⟩] eo 1 w' h (by simp) hx1
  have F2 : Hid (∀ (w' : World), Below w.heap.size w w' → Calls Try.prog 33 #[.slice ao a.length c1] w' fun e w'' => e = .returned (.bool (fewB a)) ∧ Below w'.heap.size w' w'') := fun w' h => few_any a ao c1 w' (hca.kept h (Nat.le_refl _)) hla hma
  have F3 : Hid (∀ (w' : World), Below w.heap.size w w' → Calls Try.prog 33 #[.slice bo b.length c2] w' fun e w'' => e = .returned (.bool (fewB b)) ∧ Below w'.heap.size w' w'') := fun w' h => few_any b bo c2 w' (hcb.kept h (Nat.le_refl _)) hlb hmb
  cases h1 : fewB [⟨xs, xp, xb⟩] with
  | false => rw [h1] at F1; exact hashesF_1 xs xp xb ao bo a.length b.length c1 c2 w F1
  | true =>
    rw [h1] at F1
    cases h2 : fewB a with
    | false => rw [h2] at F2; exact hashesF_2 xs xp xb ao bo a.length b.length c1 c2 w F1 F2
    | true =>
      rw [h2] at F2
      cases h3 : fewB b with
      | false => rw [h3] at F3; exact hashesF_3 xs xp xb ao bo a.length b.length c1 c2 w F1 F2 F3
      | true =>
        rw [h3] at F3
        have hxo := few_ok h1 hx1 ⟨xs, xp, xb⟩ (by simp)
        have l1 := few_len h2
        have l2 := few_len h3
        exact hashesF_4 xs xp xb (shaB (Fd.Ent.text ⟨xs, xp, xb⟩)) (clashR shaB a b).1 (clashR shaB a b).2.1 (clashR shaB a b).2.2 ao bo a.length b.length c1 c2 w F1 F2 F3
          (fun w' h => clash_any39 sum_law a b ao bo c1 c2 w' (hca.kept h (Nat.le_refl _)) (hcb.kept h (Nat.le_refl _)) (few_ok h2 hma) (few_ok h3 hmb) (by omega) (by omega))
          (fun w' h => refClash_any39 ref_law39 a b ao bo c1 c2 w' (hca.kept h (Nat.le_refl _)) (hcb.kept h (Nat.le_refl _)) (few_ok h2 hma) (few_ok h3 hmb) (by omega) (by omega) hfa.1 hfb.1)
          (fun w' => feedHash_any sum_law ⟨xs, xp, xb⟩ hxo w') (fun w' => refFeedHash_any ref_law39 ⟨xs, xp, xb⟩ hxo w')
end Go.Proofs.Ytbajgpbekanodaa
