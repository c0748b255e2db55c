/- The walks over octets.Text, octets.List and their like in the document, and over awake: what each call returns. Conditions: what is laid takes at most 2^47 bytes. -/
import Derived.Test.YtbajgpbekanodaaOctTake
import Derived.Test.YtbajgpbekanodaaStrs
namespace Go.Proofs.Ytbajgpbekanodaa
open Go.RowKit

set_option maxRecDepth 100000 in
set_option maxHeartbeats 400000 in
theorem text_any (s : ByteArray) (hs : s.size ≤ 140737488355328) (w : World) :
    Calls Try.prog 87 #[.string s] w fun e w' => e = .returned (.string (Oct.textB s)) ∧ Below w.heap.size w w' := by
  have hs2 : (s.size : Int) ≤ 140737488355328 := by omega
  have hn := number_any s.size (by omega) w
  have hl : ((Oct.numB s.size).size : Int) ≤ 9 := by have := Oct.numB_le s.size; omega
  have HN := Lib.hid hn
  clear hs hn
  unfold Oct.textB
  generalize Oct.numB s.size = n at *
  go_enter Try.func87, Try.ntmps87
  go_wp2_with fail
  refine HN.out.mono ?_
  rintro e w1 ⟨rfl, hb1⟩
  go_wp2_with fail
  go_ret
  exact ⟨rfl, hb1⟩
set_option maxRecDepth 100000 in
set_option maxHeartbeats 400000 in
theorem refText_any (s : ByteArray) (hs : s.size ≤ 140737488355328) (w : World) :
    Calls Try.prog 90 #[.string s] w fun e w' => e = .returned (.string (Oct.textB s)) ∧ Below w.heap.size w w' := by
  have hs2 : (s.size : Int) ≤ 140737488355328 := by omega
  have hn := refNumber_any s.size (by omega) w
  have hl : ((Oct.numB s.size).size : Int) ≤ 9 := by have := Oct.numB_le s.size; omega
  have HN := Lib.hid hn
  clear hs hn
  unfold Oct.textB
  generalize Oct.numB s.size = n at *
  go_enter Try.func90, Try.ntmps90
  go_wp2_with fail
  refine HN.out.mono ?_
  rintro e w1 ⟨rfl, hb1⟩
  go_wp2_with fail
  go_ret
  exact ⟨rfl, hb1⟩

theorem owns_kept {w w' : World} {B e size n N : Nat} {v : Value} {xs : List Value} (h : w.ownsRow B e size v n xs) (hb : Below N w w') (hN : w.heap.size ≤ N) : w'.ownsRow B e size v n xs := by
  obtain ⟨h1, h2⟩ := h
  refine ⟨h1, ?_⟩
  rcases h2 with h2 | ⟨g, cap, cur, hv, hg, hh, r⟩
  · exact .inl h2
  · have hlt : g < w.heap.size := by
      rcases Nat.lt_or_ge g w.heap.size with h' | h'
      · exact h'
      · rw [Array.getElem?_eq_none h'] at hh; cases hh
    exact .inr ⟨g, cap, cur, hv, hg, by rw [hb.block g (by omega)]; exact hh, r⟩
theorem builder_kept {w w' : World} {T e B b N : Nat} {bs : List Value} (h : Lib.IsBuilder T e B b bs w) (hb : Below N w w') (hN : w.heap.size ≤ N) : Lib.IsBuilder T e B b bs w' := by
  have gen : ∀ p, Lib.BuilderAt T e B b p bs w → Lib.BuilderAt T e B b p bs w' := by
    rintro p ⟨h1, v, h2, h3, h4⟩
    have hlt : b < w.heap.size := Lib.BuilderAt.lt ⟨h1, v, h2, h3, h4⟩
    exact ⟨h1, v, by rw [hb.block b (by omega)]; exact h2, owns_kept h3 hb hN, h4⟩
  rcases h with h | h
  · exact .inl (gen _ h)
  · exact .inr (gen _ h)
theorem builder_fresh (w : World) (T e : TypeId) (cs : Array Value) (hcs : cs = #[.pointer none, .slice none 0 0]) : Lib.IsBuilder T e w.heap.size w.heap.size [] (w.alloc (.cells cs T)) := by
  subst hcs
  refine .inl ⟨Nat.le_refl _, .slice none 0 0, ?_, World.ownsRow_nil _ _ _ _, by simp [Value.ownBlock]⟩
  show (w.heap.push _)[w.heap.size]? = _
  simp
/-- The first texts of a list laid. -/
def listP (ss : List ByteArray) (k : Nat) : ByteArray := (ss.take k).foldl (fun b s => b ++ Oct.textB s) (Oct.numB ss.length)
theorem listP_succ (ss : List ByteArray) (k : Nat) (h : k < ss.length) : listP ss (k + 1) = listP ss k ++ Oct.textB (ss.getD k ByteArray.empty) := by
  unfold listP
  rw [List.take_succ_eq_append_getElem h, List.foldl_append]
  simp [List.getD, h]
theorem listP_all (ss : List ByteArray) : listP ss ss.length = Oct.listB ss := by unfold listP Oct.listB; rw [List.take_length]
theorem listP_le (ss : List ByteArray) (k : Nat) : (listP ss k).size ≤ (Oct.listB ss).size := by
  rw [← listP_all]
  have step : ∀ k, (listP ss k).size ≤ (listP ss (k + 1)).size := by
    intro k
    by_cases h : k < ss.length
    · rw [listP_succ ss k h, ByteArray.size_append]; omega
    · unfold listP; rw [List.take_of_length_le (by omega), List.take_of_length_le (by omega)]; exact Nat.le_refl _
  have mono : ∀ d, (listP ss k).size ≤ (listP ss (k + d)).size := by
    intro d
    induction d with
    | zero => exact Nat.le_refl _
    | succ d ih => exact Nat.le_trans ih (step (k + d))
  by_cases h : k ≤ ss.length
  · have := mono (ss.length - k)
    rwa [show k + (ss.length - k) = ss.length by omega] at this
  · unfold listP; rw [List.take_of_length_le (by omega), List.take_of_length_le (Nat.le_refl _)]; exact Nat.le_refl _
theorem text_le (ss : List ByteArray) (k : Nat) (h : k < ss.length) : (listP ss k).size + (Oct.textB (ss.getD k ByteArray.empty)).size ≤ (Oct.listB ss).size := by
  have := listP_le ss (k + 1)
  rwa [listP_succ ss k h, ByteArray.size_append] at this

end Go.Proofs.Ytbajgpbekanodaa
