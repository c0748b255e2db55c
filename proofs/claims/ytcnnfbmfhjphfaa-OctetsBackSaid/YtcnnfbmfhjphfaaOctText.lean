/- The walks over octets.Text, octets.List and their like in the document, and over awake: what each call returns. Conditions: what is laid takes at most 2^47 bytes. -/
import Derived.Test.YtcnnfbmfhjphfaaOctTake
import Derived.Test.YtcnnfbmfhjphfaaStrs
namespace Go.Proofs.Ytcnnfbmfhjphfaa
open Go.RowKit

set_option maxRecDepth 100000 in
set_option maxHeartbeats 400000 in
theorem text_any (s : ByteArray) (hs : s.size ≤ 140737488355328) (w : World) :
    Calls Try.prog 28 #[.string s] w fun e w' => e = .returned (.string (Oct.textB s)) ∧ Below w.heap.size w w' := by
  have hs2 : (s.size : Int) ≤ 140737488355328 := by omega
  have hn := number_any s.size (by omega) w
  have hl : ((Oct.numB s.size).size : Int) ≤ 9 := by have := Oct.numB_le s.size; omega
  have HN := Lib.hid hn
  clear hs hn
  unfold Oct.textB
  generalize Oct.numB s.size = n at *
  go_enter Try.func28, Try.ntmps28
  go_wp2_with fail
  refine HN.out.mono ?_
  rintro e w1 ⟨rfl, hb1⟩
  go_wp2_with fail
  go_ret
  exact ⟨rfl, hb1⟩
set_option maxRecDepth 100000 in
set_option maxHeartbeats 400000 in
theorem refText_any (s : ByteArray) (hs : s.size ≤ 140737488355328) (w : World) :
    Calls Try.prog 29 #[.string s] w fun e w' => e = .returned (.string (Oct.textB s)) ∧ Below w.heap.size w w' := by
  have hs2 : (s.size : Int) ≤ 140737488355328 := by omega
  have hn := refNumber_any s.size (by omega) w
  have hl : ((Oct.numB s.size).size : Int) ≤ 9 := by have := Oct.numB_le s.size; omega
  have HN := Lib.hid hn
  clear hs hn
  unfold Oct.textB
  generalize Oct.numB s.size = n at *
  go_enter Try.func29, Try.ntmps29
  go_wp2_with fail
  refine HN.out.mono ?_
  rintro e w1 ⟨rfl, hb1⟩
  go_wp2_with fail
  go_ret
  exact ⟨rfl, hb1⟩

theorem owns_kept {w w' : World} {B e size n N : Nat} {v : Value} {xs : List Value} (h : w.ownsRow B e size v n xs) (hb : Below N w w') (hN : w.heap.size ≤ N) : w'.ownsRow B e size v n xs := by
  obtain ⟨h1, h2⟩ := h
  refine ⟨h1, ?_⟩
  rcases h2 with h2 | ⟨g, cap, cur, hv, hg, hh, r⟩
  · exact .inl h2
  · have hlt : g < w.heap.size := by
      rcases Nat.lt_or_ge g w.heap.size with h' | h'
      · exact h'
      · rw [Array.getElem?_eq_none h'] at hh; cases hh
    exact .inr ⟨g, cap, cur, hv, hg, by rw [hb.block g (by omega)]; exact hh, r⟩
theorem builder_kept {w w' : World} {T e B b N : Nat} {bs : List Value} (h : Lib.IsBuilder T e B b bs w) (hb : Below N w w') (hN : w.heap.size ≤ N) : Lib.IsBuilder T e B b bs w' := by
  have gen : ∀ p, Lib.BuilderAt T e B b p bs w → Lib.BuilderAt T e B b p bs w' := by
    rintro p ⟨h1, v, h2, h3, h4⟩
    have hlt : b < w.heap.size := Lib.BuilderAt.lt ⟨h1, v, h2, h3, h4⟩
    exact ⟨h1, v, by rw [hb.block b (by omega)]; exact h2, owns_kept h3 hb hN, h4⟩
  rcases h with h | h
  · exact .inl (gen _ h)
  · exact .inr (gen _ h)
theorem builder_fresh (w : World) (T e : TypeId) (cs : Array Value) (hcs : cs = #[.pointer none, .slice none 0 0]) : Lib.IsBuilder T e w.heap.size w.heap.size [] (w.alloc (.cells cs T)) := by
  subst hcs
  refine .inl ⟨Nat.le_refl _, .slice none 0 0, ?_, World.ownsRow_nil _ _ _ _, by simp [Value.ownBlock]⟩
  show (w.heap.push _)[w.heap.size]? = _
  simp
/-- The first texts of a list laid. -/
def listP (ss : List ByteArray) (k : Nat) : ByteArray := (ss.take k).foldl (fun b s => b ++ Oct.textB s) (Oct.numB ss.length)
theorem listP_succ (ss : List ByteArray) (k : Nat) (h : k < ss.length) : listP ss (k + 1) = listP ss k ++ Oct.textB (ss.getD k ByteArray.empty) := by
  unfold listP
  rw [List.take_succ_eq_append_getElem h, List.foldl_append]
  simp [List.getD, h]
theorem listP_all (ss : List ByteArray) : listP ss ss.length = Oct.listB ss := by unfold listP Oct.listB; rw [List.take_length]
theorem listP_le (ss : List ByteArray) (k : Nat) : (listP ss k).size ≤ (Oct.listB ss).size := by
  rw [← listP_all]
  have step : ∀ k, (listP ss k).size ≤ (listP ss (k + 1)).size := by
    intro k
    by_cases h : k < ss.length
    · rw [listP_succ ss k h, ByteArray.size_append]; omega
    · unfold listP; rw [List.take_of_length_le (by omega), List.take_of_length_le (by omega)]; exact Nat.le_refl _
  have mono : ∀ d, (listP ss k).size ≤ (listP ss (k + d)).size := by
    intro d
    induction d with
    | zero => exact Nat.le_refl _
    | succ d ih => exact Nat.le_trans ih (step (k + d))
  by_cases h : k ≤ ss.length
  · have := mono (ss.length - k)
    rwa [show k + (ss.length - k) = ss.length by omega] at this
  · unfold listP; rw [List.take_of_length_le (by omega), List.take_of_length_le (Nat.le_refl _)]; exact Nat.le_refl _
theorem text_le (ss : List ByteArray) (k : Nat) (h : k < ss.length) : (listP ss k).size + (Oct.textB (ss.getD k ByteArray.empty)).size ≤ (Oct.listB ss).size := by
  have := listP_le ss (k + 1)
  rwa [listP_succ ss k h, ByteArray.size_append] at this

set_option maxRecDepth 100000 in
set_option maxHeartbeats 1000000 in
theorem list_any (ao : Option Addr) (cap : Nat) (ss : List ByteArray) (w : World) (hf : StrsFit ss cap) (hc : StrsAt w ao ss) (hle : (Oct.listB ss).size ≤ 140737488355328) :
    Calls Try.prog 32 #[.slice ao ss.length cap] w fun e w' => e = .returned (.string (Oct.listB ss)) ∧ Below w.heap.size w w' := by
  have hm : (ss.length : Int) ≤ 9223372036854775807 := by have h1 := hf.1; have h2 := hf.2.1; unfold maxLen at h2; omega
  obtain ⟨n, hn⟩ : ∃ n, n = ss.length := ⟨_, rfl⟩
  have HN := Lib.hid hn
  have HC := Lib.hid hc
  have HF := Lib.hid hf
  have HLE := Lib.hid hle
  have hnum := fun w => number_any n (by omega) w
  have HNUM := Lib.hid hnum
  rw [← hn] at hm ⊢
  clear hn hc hf hle hnum
  go_enter Try.func32, Try.ntmps32
  go_wp2_with fail
  refine (HNUM.out _).mono ?_
  rintro e w1 ⟨rfl, hb1⟩
  have hbu1 := Lib.hid (builder_kept (builder_fresh w 65 5 _ rfl) hb1 (Nat.le_refl _))
  have hbel1 : Below w.heap.size w w1 := ((Below.refl _ _).alloc (Nat.le_refl _) _).trans (hb1.mono (by simp))
  clear hb1 HNUM
  go_wp2_with fail
  refine (writeString_any w.heap.size w.heap.size [] (Oct.numB n) _ hbu1.out (by have := Oct.numB_le n; simp; omega) hbel1.size).mono ?_
  rintro e w2 ⟨rfl, hbu2, hb2⟩
  have hbu : Lib.IsBuilder 65 5 w.heap.size w.heap.size (Lib.byteCells (listP ss 0).data.toList) w2 := by
    right
    have e1 : listP ss 0 = Oct.numB n := by simp [listP, HN.out]
    rw [e1]
    exact hbu2
  have hbel := hbel1.trans hb2
  clear hbu1 hbel1 hbu2 hb2
  have HBU := Lib.hid hbu
  clear hbu
  go_wp2_with fail
  go_loopw [5, 13] (fun _ i wr => ∃ k : Nat, (k : Int) ≤ (n : Int) ∧ i = .int .i64 (k : Int) ∧ Hid (Lib.IsBuilder 65 5 w.heap.size w.heap.size (Lib.byteCells (listP ss k).data.toList) wr) ∧ Below w.heap.size w wr) (fun _ i _ => n - (intOf i).toNat)
  case atStart => exact ⟨0, by omega, rfl, HBU, hbel⟩
  case round =>
    clear HBU hbel
    obtain ⟨k, hk, rfl, HBU, hbel⟩ := hrel
    by_cases hlt : (k : Int) < (n : Int)
    · have hkl : k < ss.length := by rw [← HN.out]; omega
      obtain ⟨b, off, rfl, hbl, hcell0⟩ := HC.out k hkl
      have hcell := (hbel.cell (p := ⟨b, off + k, none⟩) hbl).trans hcell0
      have hsum := text_le ss k hkl
      have hall := HLE.out
      have HS := Lib.hid (listP_succ ss k hkl)
      generalize ss.getD k ByteArray.empty = s at *
      have htx : s.size ≤ (Oct.textB s).size := by unfold Oct.textB; rw [ByteArray.size_append]; omega
      have HT := Lib.hid (text_any s (by omega))
      have HLEN : Hid ((Lib.byteCells (listP ss k).data.toList).length + (Oct.textB s).size ≤ 140737488355328) := by
        show _ ≤ _
        rw [Lib.byteCells_length]
        have : (listP ss k).data.toList.length = (listP ss k).size := by simp
        omega
      clear hsum hall htx hcell0 hkl
      go_wp2_with fail
      refine (HT.out _).mono ?_
      rintro e w3 ⟨rfl, hb3⟩
      have hbu3 := Lib.hid (builder_kept HBU.out hb3 (Nat.le_refl _))
      have hbel3 := hbel.trans (hb3.mono hbel.size)
      clear hb3 HBU hbel hcell
      go_wp2_with fail
      refine (writeString_any w.heap.size w.heap.size _ (Oct.textB s) _ hbu3.out HLEN.out hbel3.size).mono ?_
      rintro e w4 ⟨rfl, hbu4, hb4⟩
      have hbel4 := hbel3.trans hb4
      have HBU4 : Hid (Lib.IsBuilder 65 5 w.heap.size w.heap.size (Lib.byteCells (listP ss (k + 1)).data.toList) w4) := by
        right
        rw [HS.out]
        have e1 : Lib.byteCells (listP ss k ++ Oct.textB s).data.toList = Lib.byteCells (listP ss k).data.toList ++ Lib.strCells (Oct.textB s) := by
          rw [Lib.strCells_eq, ByteArray.data_append, Array.toList_append]; simp [Lib.byteCells]
        rw [e1]
        exact hbu4
      clear hbu4 hb4 hbu3 hbel3
      go_wp2_with fail
      go_roundw
      case rel => exact ⟨k + 1, by omega, by go_num, HBU4, hbel4⟩
      case measure => simp [intOf]; omega
    · obtain rfl : k = n := by omega
      have e1 : listP ss k = Oct.listB ss := by rw [HN.out, listP_all]
      rw [e1] at HBU
      have hdone := bString_any w.heap.size w.heap.size (Oct.listB ss).data.toList wr HBU.out hbel.size
      have HD := Lib.hid hdone
      clear hdone e1
      go_wp2_with fail
      refine HD.out.mono ?_
      rintro e w3 ⟨rfl, hb3⟩
      go_wp2_with fail
      go_ret
      exact ⟨rfl, hbel.trans hb3⟩

set_option maxRecDepth 100000 in
set_option maxHeartbeats 1000000 in
theorem awake01_any (w : World) :
    Calls Try.prog 23 #[] w fun e w' => e = .returned (.bool true) ∧ Below w.heap.size w w' := by
  have e1 : Oct.tnB ⟨#[120, 249, 1, 0]⟩ 1 = (256, 4, 0) := by decide +kernel
  have e2 : Oct.tnB ⟨#[248, 5]⟩ 0 = (0, 0, 11) := by decide +kernel
  have e3 : Oct.numB 248 = ⟨#[248, 248]⟩ := by decide +kernel
  have e4 : Oct.textB ⟨#[97, 98]⟩ = ⟨#[2, 97, 98]⟩ := by decide +kernel
  have e5 : Oct.listB [⟨#[97]⟩, ⟨#[]⟩] = ⟨#[2, 1, 97, 0]⟩ := by decide +kernel
  have c1 := takeNumber_any ⟨#[120, 249, 1, 0]⟩ 1
  have c2 := takeNumber_any ⟨#[248, 5]⟩ 0
  have c3 := number_any 248 (by omega)
  have c4 := text_any ⟨#[97, 98]⟩ (by decide)
  have c5 := fun ao w (h : StrsAt w ao [⟨#[97]⟩, ⟨#[]⟩]) => list_any ao 2 [⟨#[97]⟩, ⟨#[]⟩] w ⟨by simp, by simp [maxLen], by decide⟩ h (by rw [e5]; decide)
  rw [e1] at c1
  rw [e2] at c2
  rw [e3] at c3
  rw [e4] at c4
  rw [e5] at c5
  have C1 := Lib.hid c1
  have C2 := Lib.hid c2
  have C3 := Lib.hid c3
  have C4 := Lib.hid c4
  have C5 := Lib.hid c5
  clear e1 e2 e3 e4 e5 c1 c2 c3 c4 c5
  go_enter Try.func23, Try.ntmps23
  go_wp2_with fail
  refine (C1.out _ (by decide)).mono ?_
  rintro e w1 ⟨rfl, hb1⟩
  unfold trip
  go_wp2_with fail
  refine (C2.out _ (by decide)).mono ?_
  rintro e w2 ⟨rfl, hb2⟩
  unfold trip
  go_wp2_with fail
  refine (C3.out _).mono ?_
  rintro e w3 ⟨rfl, hb3⟩
  go_wp2_with fail
  refine (C4.out _).mono ?_
  rintro e w4 ⟨rfl, hb4⟩
  go_wp2_with fail
  refine (C5.out _ _ (strs_new _ _ _ _ rfl _ rfl)).mono ?_
  rintro e w5 ⟨rfl, hb5⟩
  go_wp2_with fail
  go_ret
  have k2 := hb1.trans (hb2.mono hb1.size)
  have k3 := k2.trans (hb3.mono k2.size)
  have k4 := k3.trans (hb4.mono k3.size)
  exact ⟨rfl, (k4.alloc k4.size _).trans (hb5.mono (by have := k4.size; simp; omega))⟩
end Go.Proofs.Ytcnnfbmfhjphfaa
