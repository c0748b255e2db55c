/- The walks over frame.Make, the document's Make, and small: what each call returns. Condition: what is framed takes at most 2^47 bytes. -/
import Derived.Test.YtbhadaiijcdlkaaFrmTake
namespace Go.Proofs.Ytbhadaiijcdlkaa
open Go.RowKit

theorem frS_take (ss : List ByteArray) (k : Nat) (h : k < ss.length) : Frm.frS (ss.take (k + 1)) = Frm.frS (ss.take k) ++ Frm.frB (ss.getD k ByteArray.empty) := by
  rw [List.take_succ_eq_append_getElem h, Frm.frS_append, Frm.frS_one]
  simp [List.getD, h]
theorem frS_take_le (ss : List ByteArray) (k : Nat) : (Frm.frS (ss.take k)).size ≤ (Frm.frS ss).size := by
  have e : Frm.frS ss = Frm.frS (ss.take k) ++ Frm.frS (ss.drop k) := by rw [← Frm.frS_append, List.take_append_drop]
  rw [e, ByteArray.size_append]; omega
theorem mk_big (ss : List ByteArray) (k : Nat) (h : k < ss.length) (hb : 20000 < (ss.getD k ByteArray.empty).size) : Frm.mkB ss = (ByteArray.empty, 3) := by
  have e : ss.getD k ByteArray.empty = ss[k] := by simp [List.getD, h]
  rw [e] at hb
  unfold Frm.mkB
  rw [if_neg]
  intro h2
  have := List.all_eq_true.1 h2 ss[k] (List.getElem_mem h)
  simp at this
  omega
theorem mk_ok (ss : List ByteArray) (h : ∀ i, i < ss.length → (ss.getD i ByteArray.empty).size ≤ 20000) : Frm.mkB ss = (Frm.frS ss, 0) := by
  unfold Frm.mkB
  rw [if_pos]
  refine List.all_eq_true.2 fun t ht => ?_
  obtain ⟨i, hi, rfl⟩ := List.getElem_of_mem ht
  have := h i hi
  simp [List.getD, hi] at this
  simpa using this

/-- What Make gives back. -/
def pairB (r : ByteArray × Nat) : Value := .tuple #[.string r.1, .int .i64 r.2]

set_option maxRecDepth 100000 in
set_option maxHeartbeats 2000000 in
theorem make_any (ao : Option Addr) (cap : Nat) (ss : List ByteArray) (w : World) (hf : StrsFit ss cap) (hc : StrsAt w ao ss) (hle : (Frm.frS ss).size ≤ 140737488355328) :
    Calls Try.prog 11 #[.slice ao ss.length cap] w fun e w' => e = .returned (pairB (Frm.mkB ss)) ∧ Below w.heap.size w w' := by
  have hm : (ss.length : Int) ≤ 9223372036854775807 := by have h1 := hf.1; have h2 := hf.2.1; unfold maxLen at h2; omega
  obtain ⟨n, hn⟩ : ∃ n, n = ss.length := ⟨_, rfl⟩
  have HN := Lib.hid hn
  have HC := Lib.hid hc
  have HF := Lib.hid hf
  have HLE := Lib.hid hle
  obtain ⟨R, hR⟩ : ∃ R, R = Frm.mkB ss := ⟨_, rfl⟩
  rw [← hR]
  have HR := Lib.hid hR
  rw [← hn] at hm ⊢
  clear hn hc hf hle hR
  go_enter Try.func11, Try.ntmps11
  go_wp2_with fail
  have HBU0 := Lib.hid (builder_fresh w 44 5 _ rfl)
  have hbel0 : Below w.heap.size w (w.alloc (.cells #[.pointer none, .slice none 0 0] 44)) := (Below.refl _ _).alloc (Nat.le_refl _) _
  go_loopw [6, 7, 10] (fun _ _ i wr => ∃ k : Nat, (k : Int) ≤ (n : Int) ∧ i = .int .i64 (k : Int) ∧ Hid (Lib.IsBuilder 44 5 w.heap.size w.heap.size (Lib.byteCells (Frm.frS (ss.take k)).data.toList) wr) ∧ Below w.heap.size w wr ∧ Hid (∀ i, i < k → (ss.getD i ByteArray.empty).size ≤ 20000)) (fun _ _ i _ => n - (intOf i).toNat)
  case atStart => exact ⟨0, by omega, rfl, HBU0, hbel0, fun i hi => by omega⟩
  case round =>
    clear HBU0 hbel0
    obtain ⟨k, hk, rfl, HBU, hbel, HG⟩ := hrel
    by_cases hlt : (k : Int) < (n : Int)
    · have hkl : k < ss.length := by rw [← HN.out]; omega
      obtain ⟨b, off, rfl, hbl, hcell0⟩ := HC.out k hkl
      have hcell := (hbel.cell (p := ⟨b, off + k, none⟩) hbl).trans hcell0
      have hsum := frS_take_le ss (k + 1)
      have hall := HLE.out
      have HS := Lib.hid (frS_take ss k hkl)
      rw [frS_take ss k hkl, ByteArray.size_append, Frm.frB_size] at hsum
      have HMB := Lib.hid (mk_big ss k hkl)
      have HG2 : Hid ((ss.getD k ByteArray.empty).size ≤ 20000 → ∀ i, i < k + 1 → (ss.getD i ByteArray.empty).size ≤ 20000) := fun h i hi => by
        rcases Nat.lt_succ_iff_lt_or_eq.1 hi with h1 | rfl
        · exact HG.out i h1
        · exact h
      generalize ss.getD k ByteArray.empty = s at *
      have htx := Frm.le_textB s
      by_cases hbig : (20000 : Int) < (s.size : Int)
      · have HE : Hid (R = (ByteArray.empty, 3)) := HR.out.trans (HMB.out (by omega))
        clear hsum hall htx hcell0 hkl
        go_wp2_with fail
        go_ret2
        exact ⟨by rw [HE.out]; rfl, hbel⟩
      · have HT := Lib.hid (text_any s (by omega))
        have HU := Lib.hid (frameSum_any (Oct.textB s) (by unfold maxLen; omega))
        have HG3 := Lib.hid (HG2.out (by omega))
        have HL1 : Hid ((Lib.byteCells (Frm.frS (ss.take k)).data.toList).length + (Oct.textB s).size ≤ 140737488355328) := by
          show _ ≤ _
          rw [Lib.byteCells_length]
          have : (Frm.frS (ss.take k)).data.toList.length = (Frm.frS (ss.take k)).size := by simp
          omega
        have HL2 : Hid ((Lib.byteCells (Frm.frS (ss.take k)).data.toList ++ Lib.strCells (Oct.textB s)).length + (Frm.sumB (Oct.textB s)).size ≤ 140737488355328) := by
          show _ ≤ _
          rw [List.length_append, Lib.byteCells_length, Lib.strCells_length, Frm.sumB_size]
          have : (Frm.frS (ss.take k)).data.toList.length = (Frm.frS (ss.take k)).size := by simp
          omega
        have HS2 : Hid (Lib.byteCells (Frm.frS (ss.take (k + 1))).data.toList = Lib.byteCells (Frm.frS (ss.take k)).data.toList ++ Lib.strCells (Oct.textB s) ++ Lib.strCells (Frm.sumB (Oct.textB s))) := by
          show _ = _
          rw [HS.out]
          unfold Frm.frB
          rw [Lib.strCells_eq, Lib.strCells_eq, Oct.data_join, Oct.data_join]; simp [Lib.byteCells]
        clear hsum hall htx hcell0 hkl HS HMB HG2 HG
        go_wp2_with fail
        refine (HT.out _).mono ?_
        rintro e w3 ⟨rfl, hb3⟩
        have HBU3 := Lib.hid (builder_kept HBU.out hb3 (Nat.le_refl _))
        have hbel3 := hbel.trans (hb3.mono hbel.size)
        clear hb3 HBU hbel hcell
        go_wp2_with fail
        refine (writeString_any w.heap.size w.heap.size _ (Oct.textB s) _ HBU3.out HL1.out hbel3.size).mono ?_
        rintro e w4 ⟨rfl, hbu4, hb4⟩
        have hbel4 := hbel3.trans hb4
        have HBU4 : Hid (Lib.IsBuilder 44 5 w.heap.size w.heap.size _ w4) := Or.inr hbu4
        clear hbu4 hb4 HBU3 hbel3
        go_wp2_with fail
        refine (HU.out _).mono ?_
        rintro e w5 ⟨rfl, hb5⟩
        have HBU5 := Lib.hid (builder_kept HBU4.out hb5 (Nat.le_refl _))
        have hbel5 := hbel4.trans (hb5.mono hbel4.size)
        clear hb5 HBU4 hbel4
        go_wp2_with fail
        refine (writeString_any w.heap.size w.heap.size _ (Frm.sumB (Oct.textB s)) _ HBU5.out HL2.out hbel5.size).mono ?_
        rintro e w6 ⟨rfl, hbu6, hb6⟩
        have hbel6 := hbel5.trans hb6
        have HBU6 : Hid (Lib.IsBuilder 44 5 w.heap.size w.heap.size (Lib.byteCells (Frm.frS (ss.take (k + 1))).data.toList) w6) := by
          rw [HS2.out]
          exact Or.inr hbu6
        clear hbu6 hb6 HBU5 hbel5
        go_wp2_with fail
        go_roundw
        case rel => exact ⟨k + 1, by omega, by go_num, HBU6, hbel6, HG3⟩
        case measure => simp [intOf]; omega
    · obtain rfl : k = n := by omega
      have e1 : ss.take k = ss := by rw [HN.out]; exact List.take_length
      rw [e1] at HBU
      have HD := Lib.hid (bString_any w.heap.size w.heap.size (Frm.frS ss).data.toList wr HBU.out hbel.size)
      have HE : Hid (R = (Frm.frS ss, 0)) := HR.out.trans (mk_ok ss (by rw [← HN.out]; exact HG.out))
      clear e1
      go_wp2_with fail
      refine HD.out.mono ?_
      rintro e w3 ⟨rfl, hb3⟩
      go_wp2_with fail
      go_ret2
      exact ⟨by rw [HE.out]; rfl, hbel.trans hb3⟩

set_option maxRecDepth 100000 in
set_option maxHeartbeats 2000000 in
theorem refMake_any (ao : Option Addr) (cap : Nat) (ss : List ByteArray) (w : World) (hf : StrsFit ss cap) (hc : StrsAt w ao ss) (hle : (Frm.frS ss).size ≤ 140737488355328) :
    Calls Try.prog 12 #[.slice ao ss.length cap] w fun e w' => e = .returned (pairB (Frm.mkB ss)) ∧ Below w.heap.size w w' := by
  have hm : (ss.length : Int) ≤ 9223372036854775807 := by have h1 := hf.1; have h2 := hf.2.1; unfold maxLen at h2; omega
  obtain ⟨n, hn⟩ : ∃ n, n = ss.length := ⟨_, rfl⟩
  have HN := Lib.hid hn
  have HC := Lib.hid hc
  have HF := Lib.hid hf
  have HLE := Lib.hid hle
  obtain ⟨R, hR⟩ : ∃ R, R = Frm.mkB ss := ⟨_, rfl⟩
  rw [← hR]
  have HR := Lib.hid hR
  rw [← hn] at hm ⊢
  clear hn hc hf hle hR
  go_enter Try.func12, Try.ntmps12
  go_wp2_with fail
  go_loopw [4, 5] (fun o i wr => ∃ k : Nat, (k : Int) ≤ (n : Int) ∧ i = .int .i64 (k : Int) ∧ o = .string (Frm.frS (ss.take k)) ∧ Below w.heap.size w wr ∧ Hid (∀ i, i < k → (ss.getD i ByteArray.empty).size ≤ 20000)) (fun _ i _ => n - (intOf i).toNat)
  case atStart => exact ⟨0, by omega, rfl, rfl, Below.refl _ _, fun i hi => by omega⟩
  case round =>
    obtain ⟨k, hk, rfl, rfl, hbel, HG⟩ := hrel
    by_cases hlt : (k : Int) < (n : Int)
    · have hkl : k < ss.length := by rw [← HN.out]; omega
      obtain ⟨b, off, rfl, hbl, hcell0⟩ := HC.out k hkl
      have hcell := (hbel.cell (p := ⟨b, off + k, none⟩) hbl).trans hcell0
      have hsum := frS_take_le ss (k + 1)
      have hall := HLE.out
      have HS := Lib.hid (frS_take ss k hkl)
      rw [frS_take ss k hkl, ByteArray.size_append] at hsum
      have HMB := Lib.hid (mk_big ss k hkl)
      have HG2 : Hid ((ss.getD k ByteArray.empty).size ≤ 20000 → ∀ i, i < k + 1 → (ss.getD i ByteArray.empty).size ≤ 20000) := fun h i hi => by
        rcases Nat.lt_succ_iff_lt_or_eq.1 hi with h1 | rfl
        · exact HG.out i h1
        · exact h
      generalize ss.getD k ByteArray.empty = s at *
      by_cases hbig : (20000 : Int) < (s.size : Int)
      · have HE : Hid (R = (ByteArray.empty, 3)) := HR.out.trans (HMB.out (by omega))
        clear hsum hall hcell0 hkl
        go_wp2_with fail
        go_ret2
        exact ⟨by rw [HE.out]; rfl, hbel⟩
      · have HT := Lib.hid (one_any s (by omega))
        have HG3 := Lib.hid (HG2.out (by omega))
        generalize Frm.frB s = x at *
        have hcat : ((Frm.frS (ss.take k)).size : Int) + (x.size : Int) ≤ 9223372036854775807 := by omega
        clear hsum hall hcell0 hkl HMB HG2 HG
        go_wp2_with fail
        refine (HT.out _).mono ?_
        rintro e w3 ⟨rfl, hb3⟩
        have hbel3 := hbel.trans (hb3.mono hbel.size)
        go_wp2_with fail
        go_roundw
        case rel => exact ⟨k + 1, by omega, by go_num, by rw [HS.out], hbel3, HG3⟩
        case measure => simp [intOf]; omega
    · obtain rfl : k = n := by omega
      have e1 : ss.take k = ss := by rw [HN.out]; exact List.take_length
      rw [e1]
      have HE : Hid (R = (Frm.frS ss, 0)) := HR.out.trans (mk_ok ss (by rw [← HN.out]; exact HG.out))
      clear e1
      go_wp2_with fail
      go_ret2
      exact ⟨by rw [HE.out]; rfl, hbel⟩

/-! ### small -/
set_option maxRecDepth 100000 in
set_option maxHeartbeats 1000000 in
theorem small20_any (ao : Option Addr) (cap : Nat) (ss : List ByteArray) (w : World) (hf : StrsFit ss cap) (hc : StrsAt w ao ss) :
    Calls Try.prog 9 #[.slice ao ss.length cap] w fun e w' => e = .returned (.bool (Frm.smallB ss)) ∧ w = w' := by
  have hm : (ss.length : Int) ≤ 9223372036854775807 := by have h1 := hf.1; have h2 := hf.2.1; unfold maxLen at h2; omega
  obtain ⟨n, hn⟩ : ∃ n, n = ss.length := ⟨_, rfl⟩
  have HN := Lib.hid hn
  have HC := Lib.hid hc
  have HF := Lib.hid hf
  rw [← hn] at hm ⊢
  clear hn hc hf
  go_enter Try.func9, Try.ntmps9
  go_wp2_with fail
  go_loop [3, 4] (fun r i => ∃ k : Nat, (k : Int) ≤ (n : Int) ∧ i = .int .i64 k ∧ r = .int .i64 (Frm.wt (ss.take k)) ∧ (Frm.wt (ss.take k) : Int) ≤ 60000) (fun _ i => n - (intOf i).toNat)
  case atStart => exact ⟨0, by omega, rfl, rfl, by simp [Frm.wt]⟩
  case round =>
    obtain ⟨k, hk, rfl, rfl, hwt⟩ := hrel
    by_cases hlt : (k : Int) < (n : Int)
    · have hkl : k < ss.length := by rw [← HN.out]; omega
      obtain ⟨b, off, rfl, hbl, hcell⟩ := HC.out k hkl
      have H := Lib.hid (Frm.wt_take ss k hkl)
      have hsz := getD_fit HF.out k
      have HNO := Lib.hid (Frm.small_no ss (k + 1))
      generalize ss.getD k ByteArray.empty = s at *
      unfold maxLen at hsz
      clear hkl
      go_wp2_with fail
      case roundEnd =>
        have h : (Frm.wt (ss.take k) : Int) + (min (s.size : Int) 100000 + 9) ≤ 60000 := by assumption
        go_round
        case rel => exact ⟨k + 1, by omega, by go_num, by rw [H.out]; go_num, by rw [H.out]; omega⟩
        case measure => simp [intOf]; omega
      all_goals
        have h : (60000 : Int) < (Frm.wt (ss.take k) : Int) + (min (s.size : Int) 100000 + 9) := by assumption
        go_ret
        exact ⟨by rw [HNO.out (by rw [H.out]; omega)]; rfl, rfl⟩
    · obtain rfl : k = n := by omega
      have e1 : ss.take k = ss := by rw [HN.out]; exact List.take_length
      have HE : Hid (Frm.smallB ss = true) := by
        show _ = _
        rw [e1] at hwt
        unfold Frm.smallB
        exact decide_eq_true (by omega)
      clear e1
      go_wp2_with fail
      go_ret
      exact ⟨by rw [HE.out]; rfl, rfl⟩
end Go.Proofs.Ytbhadaiijcdlkaa
