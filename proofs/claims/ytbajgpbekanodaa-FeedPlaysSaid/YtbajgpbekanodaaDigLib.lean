/- The walks over strings.Repeat (at one byte 0, fewer than 64 times) and strings.Join (without a separator). -/
import Derived.Test.YtbajgpbekanodaaLib
import Derived.Test.YtbajgpbekanodaaDigShelf
import Derived.Test.YtbajgpbekanodaaOctText
import Derived.WalkLawsBesides
import Derived.Deep.LoopGhost
import Derived.BigQuiet
import Derived.Laws.Rows
namespace Go.Proofs.Ytbajgpbekanodaa
open Go.RowKit

def zerosB (n : Nat) : ByteArray := ⟨(List.replicate n 0).toArray⟩
theorem zerosB_size (n : Nat) : (zerosB n).size = n := by simp [zerosB, ByteArray.size]
theorem zerosB_cut (n m : Nat) (h : m ≤ n) : (zerosB n).extract 0 m = zerosB m := by
  apply ByteArray.ext
  apply Array.toList_inj.1
  rw [ByteArray.data_extract, Array.toList_extract, List.extract_eq_take_drop]
  simp [zerosB, Nat.min_eq_left h]
theorem zeros_cells (m k : Nat) : Lib.byteCells (List.replicate m 0) ++ Lib.strCells (zerosB k) = Lib.byteCells (List.replicate (m + k) 0) := by
  rw [Lib.strCells_eq]
  simp [Lib.byteCells, zerosB, List.replicate_append_replicate]

set_option maxRecDepth 100000 in
set_option maxHeartbeats 1000000 in
theorem repeat0_few (c : Nat) (hc : c = 0 ∨ c = 1) (w : World) :
    Calls Try.prog 76 #[.string ⟨#[0]⟩, .int .i64 (c : Int)] w fun e w' => e = .returned (.string (zerosB c)) ∧ Below w.heap.size w w' := by
  rcases hc with rfl | rfl
  · go_enter Try.func76, Try.ntmps76
    go_wp2_with fail
    go_ret
    exact ⟨rfl, Below.refl _ _⟩
  · go_enter Try.func76, Try.ntmps76
    go_wp2_with fail
    go_ret
    exact ⟨rfl, Below.refl _ _⟩

/- A builder that String has read, and that is written on. -/
theorem copyCheck_anyF (B b : Nat) (bs : List Value) (w : World) (h : Lib.IsBuilderF 117 5 B b bs w) :
    Calls Try.prog 98 #[.pointer (some ⟨b, 0, none⟩)] w fun e w' => e = .returned (.tuple #[]) ∧ (Lib.BuilderAtF 117 5 B b (.pointer (some ⟨b, 0, none⟩)) bs w' ∧ Below B w w') := by
  rcases h with h | h
  · refine (copyCheck_fresh b w h.cell0 h.shape h.frozen0).mono ?_
    rintro e w' ⟨rfl, rfl⟩
    exact ⟨rfl, h.used _, (Below.refl B w).setCell (p := ⟨b, 0, none⟩) h.1 _⟩
  · refine (copyCheck_used b w h.cell0).mono ?_
    rintro e w' ⟨rfl, rfl⟩
    exact ⟨rfl, h, Below.refl B _⟩

set_option maxHeartbeats 2000000 in
set_option maxRecDepth 100000 in
/-- WriteString, the new length at most 2^47 bytes. -/
theorem writeString_anyF (B b : Nat) (bs : List Value) (s : ByteArray) (w : World) (h : Lib.IsBuilderF 117 5 B b bs w) (hlen : bs.length + s.size ≤ 140737488355328) (hBw : B ≤ w.heap.size) :
    Calls Try.prog 81 #[.pointer (some ⟨b, 0, none⟩), .string s] w fun e w' => e = .returned (.tuple #[.int .i64 s.size, .nilIface]) ∧ (Lib.BuilderAtF 117 5 B b (.pointer (some ⟨b, 0, none⟩)) (bs ++ Lib.strCells s) w' ∧ Below B w w') := by
  obtain ⟨i0, hi, hz0, hz1, hz2⟩ := info_parts infoByteB
  go_enter Try.func81, Try.ntmps81
  go_wp2_with (go_at_call 98; refine (copyCheck_anyF B b bs _ h).mono ?_)
  rintro e w1 ⟨rfl, h1, hb1⟩
  obtain ⟨hB, v, hbk, hown, hne⟩ := h1
  have c0 : w1.cell? ⟨b, 0, none⟩ = some (.pointer (some ⟨b, 0, none⟩)) := by rw [Lib.cell_of_heap hbk]; rfl
  have c1 : w1.cell? ⟨b, 1, none⟩ = some v := by rw [Lib.cell_of_heap hbk]; rfl
  go_wp2_with (at_builtin; refine Lib.wpList_append_own_stringF _ rfl _ _ 95 9 rfl B 5 i0 Try.underlying95 Try.underlying9 hi hz0 hz1 hz2 _ _ _ rfl hown s rfl ?c3 ?c4 ?c5 ?_)
  case c3 => unfold maxLen; omega
  case c4 => omega
  case c5 => have := hb1.size; omega
  intro v' w2 hown' hgrow _
  have hlt : b < w1.heap.size := by
    rcases Nat.lt_or_ge b w1.heap.size with h' | h'
    · exact h'
    · simp [Array.getElem?_eq_none h'] at hbk
  have hb2 : w2.heap[b]? = some (.cells #[.pointer (some ⟨b, 0, none⟩), v] 117 (0, 0)) := by
    rw [hgrow.block b hlt (fun e => hne e.symm)]
    exact hbk
  have d0 : w2.cell? ⟨b, 0, none⟩ = some (.pointer (some ⟨b, 0, none⟩)) := by rw [Lib.cell_of_heap hb2]; rfl
  have d1 : w2.cell? ⟨b, 1, none⟩ = some v := by rw [Lib.cell_of_heap hb2]; rfl
  have f1 : w2.frozen? ⟨b, 1, none⟩ = false := Lib.frozen_of_heap hb2 1
  obtain ⟨ao, n', cap, rfl⟩ : ∃ ao n' cap, v' = .slice ao n' cap := by
    rcases hown'.2 with ⟨hv, _⟩ | ⟨g, cap, cur, fz, hv, _⟩
    · exact ⟨_, _, _, hv⟩
    · exact ⟨_, _, _, hv⟩
  go_wp2
  go_ret2
  refine ⟨rfl, ?_, ?_⟩
  · exact Lib.BuilderAtF.put (T := 117) (e := 5) hB hb2 (bs' := bs ++ Lib.strCells s) (by simpa [Lib.strCells_length] using hown') (by decide)
  · exact (hb1.grown hgrow (by have := hb1.size; omega) (fun k hk => (hown.lt k hk).1)).setCell (p := ⟨b, 1, none⟩) hB _
set_option maxRecDepth 100000 in
set_option maxHeartbeats 2000000 in
theorem repeat0_many (c : Nat) (h2 : 2 ≤ (c : Int)) (h63 : (c : Int) ≤ 63) (w : World) :
    Calls Try.prog 76 #[.string ⟨#[0]⟩, .int .i64 (c : Int)] w fun e w' => e = .returned (.string (zerosB c)) ∧ Below w.heap.size w w' := by
  have CM := Lib.hid (fun w => (Try.bits_Mul 1 c (by omega) (by omega) w).mono (R' := fun e w' => e = .returned (.tuple #[.int .u64 ((1 * c / 18446744073709551616 : Nat) : Int), .int .u64 ((1 * c % 18446744073709551616 : Nat) : Int)]) ∧ w = w') fun _ _ h => ⟨h.1, h.2.symm⟩)
  have e1 : 1 * c / 18446744073709551616 = 0 := by omega
  have e2 : 1 * c % 18446744073709551616 = c := by omega
  rw [e1, e2] at CM
  clear e1 e2
  go_enter Try.func76, Try.ntmps76
  go_wp2_with fail
  refine (CM.out _).mono ?_
  rintro e w' ⟨rfl, rfl⟩
  go_wp2_with fail
  refine (Try.Builder_Grow_fresh w.heap.size w.heap.size c _ (Nat.le_refl _) (heap_alloc_new _ _) (by simp) (by omega)).mono ?_
  rintro e w1 ⟨rfl, hbu1, hb1⟩
  have hbel1 : Below w.heap.size w w1 := ((Below.refl _ _).alloc (Nat.le_refl _) _).trans hb1
  have HBU1 : Hid (Lib.IsBuilder 117 5 w.heap.size w.heap.size [] w1) := Or.inr hbu1
  clear hbu1 hb1
  go_wp2_with fail
  refine (writeString_any w.heap.size w.heap.size [] ⟨#[0]⟩ _ HBU1.out (by decide) hbel1.size).mono ?_
  rintro e w2 ⟨rfl, hbu2, hb2⟩
  have HBU : Hid (Lib.IsBuilderF 117 5 w.heap.size w.heap.size (Lib.byteCells (List.replicate 1 0)) w2) := Lib.IsBuilderF.of (Or.inr hbu2)
  have hbel := hbel1.trans hb2
  clear hbu2 hb2 HBU1 hbel1
  go_wp2_with fail
  go_loopg [10] (c - 1) (fun g _ wr => ∃ m : Nat, 1 ≤ (m : Int) ∧ (m : Int) ≤ (c : Int) ∧ g = c - m ∧ Hid (Lib.IsBuilderF 117 5 w.heap.size w.heap.size (Lib.byteCells (List.replicate m 0)) wr) ∧ Below w.heap.size w wr)
  case atStart => exact ⟨1, by omega, by omega, by omega, HBU, hbel⟩
  case round =>
    clear HBU hbel
    obtain ⟨m, h1, hm, rfl, HBU, hbel⟩ := hrel
    have CL : Hid (Calls Try.prog 93 #[.pointer (some ⟨w.heap.size, 0, none⟩)] wr fun e w' => e = .returned (.int .i64 (m : Int)) ∧ wr = w') := by
      have h := (Try.Builder_Len_f _ _ _ _ HBU.out).mono (R' := fun e w' => e = .returned (.int .i64 ((Lib.byteCells (List.replicate m 0)).length : Nat)) ∧ wr = w') fun _ _ h => ⟨h.1, h.2.symm⟩
      rw [Lib.byteCells_length, List.length_replicate] at h
      exact h
    have CS : Hid (Calls Try.prog 82 #[.pointer (some ⟨w.heap.size, 0, none⟩)] wr fun e w' => e = .returned (.string (zerosB m)) ∧ (Lib.IsBuilderF 117 5 w.heap.size w.heap.size (Lib.byteCells (List.replicate m 0)) w' ∧ Below w.heap.size wr w')) := Try.Builder_String_any_f _ _ _ _ HBU.out hbel.size
    by_cases hlt : (m : Int) < (c : Int)
    · obtain ⟨q, hq⟩ : ∃ q : Nat, (c : Int) - (m : Int) = (q : Int) := ⟨c - m, by omega⟩
      have HQ := Lib.hid hq
      have hzs : ((zerosB m).size : Int) = (m : Int) := by rw [zerosB_size]
      have HW : Hid (∀ (k : Nat) (w5 : World), k ≤ m → m + k ≤ c → Below w.heap.size wr w5 → Lib.IsBuilderF 117 5 w.heap.size w.heap.size (Lib.byteCells (List.replicate m 0)) w5 →
          Calls Try.prog 81 #[.pointer (some ⟨w.heap.size, 0, none⟩), .string ((zerosB m).extract 0 k)] w5 fun e w' => ∃ v, e = .returned v ∧ v = .tuple #[.int .i64 k, .nilIface] ∧ Hid (Lib.IsBuilderF 117 5 w.heap.size w.heap.size (Lib.byteCells (List.replicate (m + k) 0)) w' ∧ Below w.heap.size w w')) := fun k w5 h1 h2 h3 h4 => by
        rw [zerosB_cut m k h1]
        refine (writeString_anyF w.heap.size w.heap.size _ (zerosB k) _ h4 (by rw [Lib.byteCells_length, List.length_replicate, zerosB_size]; omega) (hbel.trans h3).size).mono ?_
        rintro e w' ⟨rfl, hbu, hb⟩
        rw [zeros_cells] at hbu
        rw [zerosB_size]
        exact ⟨_, rfl, rfl, Or.inr hbu, (hbel.trans h3).trans hb⟩
      go_wp2_with fail
      refine CL.out.mono ?_
      rintro e w' ⟨rfl, rfl⟩
      go_wp2_with fail
      refine CL.out.mono ?_
      rintro e w' ⟨rfl, rfl⟩
      go_wp2_with fail
      refine CL.out.mono ?_
      rintro e w' ⟨rfl, rfl⟩
      go_wp2_with fail
      all_goals
        refine CS.out.mono ?_
        rintro e w5 ⟨rfl, hbu5, hb5⟩
        have HB5 := Lib.hid hbu5
        have HBE5 := Lib.hid hb5
        clear hb5 hbu5
        go_wp2_with fail
        refine (HW.out _ _ (by have := HQ.out; omega) (by have := HQ.out; omega) HBE5.out HB5.out).mono ?_
        rintro e w6 ⟨v, rfl, rfl, hbu6⟩
        go_wp2_with fail
      · go_roundg (c - (m + m))
        case measure => have := HQ.out; omega
        case rel => exact ⟨m + m, by omega, by have := HQ.out; omega, rfl, hbu6.out.1, hbu6.out.2⟩
      · go_roundg (c - (m + q))
        case measure => have := HQ.out; omega
        case rel => exact ⟨m + q, by have := HQ.out; omega, by have := HQ.out; omega, rfl, hbu6.out.1, hbu6.out.2⟩
    · obtain rfl : m = c := by omega
      go_wp2_with fail
      refine CL.out.mono ?_
      rintro e w' ⟨rfl, rfl⟩
      go_wp2_with fail
      refine CS.out.mono ?_
      rintro e w5 ⟨rfl, _, hb5⟩
      go_wp2_with fail
      go_ret
      exact ⟨rfl, hbel.trans hb5⟩

theorem repeat0_any (c : Nat) (hc : c < 64) (w : World) :
    Calls Try.prog 76 #[.string ⟨#[0]⟩, .int .i64 (c : Int)] w fun e w' => e = .returned (.string (zerosB c)) ∧ Below w.heap.size w w' := by
  by_cases h : c ≤ 1
  · exact repeat0_few c (by omega) w
  · exact repeat0_many c (by omega) (by omega) w

/-! ### Join -/
/-- Texts, one behind the other. -/
def jnB (ss : List ByteArray) : ByteArray := ss.foldl (fun b s => b ++ s) ByteArray.empty
theorem jn_snoc (ss : List ByteArray) (s : ByteArray) : jnB (ss ++ [s]) = jnB ss ++ s := by unfold jnB; rw [List.foldl_append]; rfl
theorem jn_take (ss : List ByteArray) (k : Nat) (h : k < ss.length) : jnB (ss.take (k + 1)) = jnB (ss.take k) ++ ss.getD k ByteArray.empty := by
  rw [List.take_succ_eq_append_getElem h, jn_snoc]
  simp [List.getD, h]
theorem jn_le (ss : List ByteArray) (k : Nat) : (jnB (ss.take k)).size ≤ (jnB ss).size := by
  have step : ∀ k, (jnB (ss.take k)).size ≤ (jnB (ss.take (k + 1))).size := by
    intro k
    by_cases h : k < ss.length
    · rw [jn_take ss k h, ByteArray.size_append]; omega
    · rw [List.take_of_length_le (by omega), List.take_of_length_le (by omega)]; exact Nat.le_refl _
  have mono : ∀ d, (jnB (ss.take k)).size ≤ (jnB (ss.take (k + d))).size := by
    intro d
    induction d with
    | zero => exact Nat.le_refl _
    | succ d ih => exact Nat.le_trans ih (step (k + d))
  have h1 := mono ss.length
  rwa [List.take_of_length_le (show ss.length ≤ k + ss.length by omega)] at h1

set_option maxRecDepth 100000 in
set_option maxHeartbeats 1000000 in
theorem join_none (ao : Option Addr) (cap : Nat) (w : World) :
    Calls Try.prog 57 #[.slice ao 0 cap, .string ByteArray.empty] w fun e w' => e = .returned (.string ByteArray.empty) ∧ Below w.heap.size w w' := by
  go_enter Try.func57, Try.ntmps57
  go_wp2_with fail
  go_ret
  exact ⟨rfl, Below.refl _ _⟩
set_option maxRecDepth 100000 in
set_option maxHeartbeats 1000000 in
theorem join_one (b off cap : Nat) (s : ByteArray) (w : World) (hc : w.cell? ⟨b, off, none⟩ = some (.string s)) :
    Calls Try.prog 57 #[.slice (some ⟨b, off, none⟩) 1 cap, .string ByteArray.empty] w fun e w' => e = .returned (.string s) ∧ Below w.heap.size w w' := by
  go_enter Try.func57, Try.ntmps57
  go_wp2_with fail
  go_ret
  exact ⟨rfl, Below.refl _ _⟩
set_option maxRecDepth 100000 in
set_option maxHeartbeats 4000000 in
theorem join_many (b off cap n : Nat) (ss : List ByteArray) (w : World) (hn : n = ss.length) (h2 : 2 ≤ (n : Int)) (hf : StrsFit ss cap) (hb : b < w.heap.size) (hc : ∀ i, i < ss.length → w.cell? ⟨b, off + i, none⟩ = some (.string (ss.getD i ByteArray.empty)))
    (hle : (jnB ss).size ≤ 140737488355328) :
    Calls Try.prog 57 #[.slice (some ⟨b, off, none⟩) n cap, .string ByteArray.empty] w fun e w' => e = .returned (.string (jnB ss)) ∧ Below w.heap.size w w' := by
  have hm : (n : Int) ≤ (cap : Int) ∧ (cap : Int) ≤ 9223372036854775807 := by have h1 := hf.1; have h2 := hf.2.1; unfold maxLen at h2; omega
  obtain ⟨hm1, hm2⟩ := hm
  have HN := Lib.hid hn
  have HC := Lib.hid hc
  have HLE : Hid (((jnB ss).size : Int) ≤ 140737488355328) := by show _ ≤ _; omega
  have HB := Lib.hid hb
  clear hn hc hf hle hb
  go_enter Try.func57, Try.ntmps57
  go_wp2_with fail
  go_loop [5, 7, 41] (fun r _ i => ∃ k : Nat, (k : Int) ≤ (n : Int) ∧ i = .int .i64 k ∧ r = .int .i64 ((jnB (ss.take k)).size : Nat)) (fun _ _ i => n - (intOf i).toNat)
  case atStart => exact ⟨0, by omega, rfl, rfl⟩
  case round =>
    obtain ⟨k, hk, rfl, rfl⟩ := hrel
    by_cases hlt : (k : Int) < (n : Int)
    · have hkl : k < ss.length := by rw [← HN.out]; omega
      have hcell := HC.out k hkl
      have H := jn_take ss k hkl
      have hl := jn_le ss (k + 1)
      have hle := HLE.out
      have H2 : (jnB (ss.take (k + 1))).size = (jnB (ss.take k)).size + (ss.getD k ByteArray.empty).size := by rw [H, ByteArray.size_append]
      have HH := Lib.hid H2
      generalize ss.getD k ByteArray.empty = s at *
      have hz : ((jnB (ss.take k)).size : Int) + (s.size : Int) ≤ 140737488355328 := by omega
      have HZ := Lib.hid hle
      clear H H2 hl hkl hle
      generalize (jnB (ss.take k)).size = z at *
      go_wp2_with fail
      go_round
      case rel => exact ⟨k + 1, by omega, by go_num, by rw [HH.out]; go_num⟩
      case measure => simp [intOf]; omega
    · obtain rfl : k = n := by omega
      have e1 : ss.take k = ss := by rw [HN.out]; exact List.take_length
      rw [e1]
      clear e1
      have hz := HLE.out
      obtain ⟨z, hz2⟩ : ∃ z, (jnB ss).size = z := ⟨_, rfl⟩
      rw [hz2] at hz ⊢
      have HZ2 := Lib.hid hz2
      clear hz2
      have c0 := HC.out 0 (by rw [← HN.out]; omega)
      rw [Nat.add_zero] at c0
      go_wp2_with fail
      refine (Try.Builder_Grow_fresh w.heap.size w.heap.size z _ (Nat.le_refl _) (heap_alloc_new _ _) (by simp) (by omega)).mono ?_
      rintro e w1 ⟨rfl, hbu1, hb1⟩
      have hbel1 : Below w.heap.size w w1 := ((Below.refl _ _).alloc (Nat.le_refl _) _).trans hb1
      have HBU1 : Hid (Lib.IsBuilder 117 5 w.heap.size w.heap.size [] w1) := Or.inr hbu1
      have c1 := (hbel1.cell (p := ⟨b, off, none⟩) HB.out).trans c0
      have hs0 : (ss.getD 0 ByteArray.empty).size ≤ 140737488355328 := by
        have h1 := jn_take ss 0 (by rw [← HN.out]; omega)
        have h3 := jn_le ss 1
        have h4 : (jnB (ss.take 1)).size = (jnB (ss.take 0)).size + (ss.getD 0 ByteArray.empty).size := by rw [h1, ByteArray.size_append]
        have h5 := HLE.out
        omega
      have HFIRST : Hid (Lib.byteCells (jnB (ss.take 1)).data.toList = [] ++ Lib.strCells (ss.getD 0 ByteArray.empty)) := by
        show _ = _
        have h1 := jn_take ss 0 (by rw [← HN.out]; omega)
        rw [h1, Lib.strCells_eq]
        simp [jnB]
      generalize ss.getD 0 ByteArray.empty = s0 at *
      clear hbu1 hb1 c0
      go_wp2_with fail
      refine (writeString_any w.heap.size w.heap.size [] s0 _ HBU1.out (by simpa using hs0) hbel1.size).mono ?_
      rintro e w2 ⟨rfl, hbu2, hb2⟩
      have HBU : Hid (Lib.IsBuilder 117 5 w.heap.size w.heap.size (Lib.byteCells (jnB (ss.take 1)).data.toList) w2) := by
        rw [HFIRST.out]; exact Or.inr hbu2
      have hbel := hbel1.trans hb2
      clear hbu2 hb2 HBU1 hbel1 HFIRST hs0 c1
      go_wp2_with fail
      go_loopw [10, 65] (fun _ i wr => ∃ j : Nat, (j : Int) ≤ (k : Int) - 1 ∧ i = .int .i64 (j : Int) ∧ Hid (Lib.IsBuilder 117 5 w.heap.size w.heap.size (Lib.byteCells (jnB (ss.take (j + 1))).data.toList) wr) ∧ Below w.heap.size w wr) (fun _ i _ => k - (intOf i).toNat)
      case atStart => exact ⟨0, by omega, rfl, HBU, hbel⟩
      case round =>
        clear HBU hbel
        obtain ⟨j, hj, rfl, HBU, hbel⟩ := hrel
        by_cases hjlt : (j : Int) < (k : Int) - 1
        · have hjl : j + 1 < ss.length := by rw [← HN.out]; omega
          have hcell0 := HC.out (j + 1) hjl
          have hcell : wr.cell? ⟨b, off + 1 + j, none⟩ = some (.string (ss.getD (j + 1) ByteArray.empty)) := by
            rw [show off + 1 + j = off + (j + 1) by omega]
            exact (hbel.cell (p := ⟨b, off + (j + 1), none⟩) HB.out).trans hcell0
          have H := jn_take ss (j + 1) hjl
          have hl := jn_le ss (j + 1 + 1)
          have hle := HLE.out
          have H2 : (jnB (ss.take (j + 1 + 1))).size = (jnB (ss.take (j + 1))).size + (ss.getD (j + 1) ByteArray.empty).size := by rw [H, ByteArray.size_append]
          have HX : Hid (Lib.byteCells (jnB (ss.take (j + 1 + 1))).data.toList = Lib.byteCells (jnB (ss.take (j + 1))).data.toList ++ Lib.strCells (ss.getD (j + 1) ByteArray.empty)) := by
            show _ = _
            rw [H, Lib.strCells_eq, ByteArray.data_append, Array.toList_append]; simp [Lib.byteCells]
          have HL : Hid ((Lib.byteCells (jnB (ss.take (j + 1))).data.toList).length + (ss.getD (j + 1) ByteArray.empty).size ≤ 140737488355328) := by
            show _ ≤ _
            rw [Lib.byteCells_length]
            have : (jnB (ss.take (j + 1))).data.toList.length = (jnB (ss.take (j + 1))).size := by simp
            omega
          generalize ss.getD (j + 1) ByteArray.empty = s at *
          have HL0 : Hid ((Lib.byteCells (jnB (ss.take (j + 1))).data.toList).length + ByteArray.empty.size ≤ 140737488355328) := by
            have := HL.out
            have e0 : ByteArray.empty.size = 0 := rfl
            show _ ≤ _
            omega
          clear H H2 hl hle hjl hcell0
          go_wp2_with fail
          refine (writeString_any w.heap.size w.heap.size _ ByteArray.empty _ HBU.out HL0.out hbel.size).mono ?_
          rintro e w3 ⟨rfl, hbu3, hb3⟩
          have HBU3 : Hid (Lib.IsBuilder 117 5 w.heap.size w.heap.size (Lib.byteCells (jnB (ss.take (j + 1))).data.toList) w3) := by
            have e0 : Lib.strCells ByteArray.empty = [] := by rw [Lib.strCells_eq]; rfl
            rw [e0, List.append_nil] at hbu3
            exact Or.inr hbu3
          have hbel3 := hbel.trans hb3
          clear hbu3 hb3 HBU hbel
          go_wp2_with fail
          refine (writeString_any w.heap.size w.heap.size _ s _ HBU3.out HL.out hbel3.size).mono ?_
          rintro e w4 ⟨rfl, hbu4, hb4⟩
          have HBU4 : Hid (Lib.IsBuilder 117 5 w.heap.size w.heap.size (Lib.byteCells (jnB (ss.take (j + 1 + 1))).data.toList) w4) := by
            rw [HX.out]; exact Or.inr hbu4
          have hbel4 := hbel3.trans hb4
          clear hbu4 hb4 HBU3 hbel3
          go_wp2_with fail
          go_roundw
          case rel => exact ⟨j + 1, by omega, by go_num, HBU4, hbel4⟩
          case measure => simp [intOf]; omega
        · have hj2 : j + 1 = k := by omega
          have e1 : ss.take (j + 1) = ss := by rw [hj2, HN.out]; exact List.take_length
          rw [e1] at HBU
          have HD := Lib.hid (bString_any w.heap.size w.heap.size (jnB ss).data.toList wr HBU.out hbel.size)
          clear e1
          go_wp2_with fail
          refine HD.out.mono ?_
          rintro e w3 ⟨rfl, hb3⟩
          go_wp2_with fail
          go_ret
          exact ⟨rfl, hbel.trans hb3⟩
/-- strings.Join without a separator. -/
theorem join_any (ao : Option Addr) (n cap : Nat) (ss : List ByteArray) (w : World) (hn : n = ss.length) (hf : StrsFit ss cap) (hc : StrsAt w ao ss) (hle : n ≤ 1 ∨ (jnB ss).size ≤ 140737488355328) :
    Calls Try.prog 57 #[.slice ao n cap, .string ByteArray.empty] w fun e w' => e = .returned (.string (jnB ss)) ∧ Below w.heap.size w w' := by
  by_cases h : ss = []
  · subst h hn; exact join_none ao cap w
  · obtain ⟨b, off, rfl, hb, hc'⟩ := strs_at hc h
    by_cases h1 : n = 1
    · subst h1
      obtain ⟨s, rfl⟩ : ∃ s, ss = [s] := List.length_eq_one_iff.1 hn.symm
      have := join_one b off cap s w (by simpa using hc' 0 (by simp))
      refine this.mono ?_
      rintro e w' ⟨rfl, hb⟩
      exact ⟨by simp [jnB], hb⟩
    · have : 0 < ss.length := List.length_pos_iff.2 h
      exact join_many b off cap n ss w hn (by omega) hf hb hc' (hle.resolve_left (by omega))
end Go.Proofs.Ytbajgpbekanodaa
