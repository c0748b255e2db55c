/- Slices of strings in memory: what a walk is told of them. -/
import Derived.WalkKit
import Derived.Lib.Hide
namespace Go.Proofs.Ytbajgpbekanodaa
open Go.RowKit

/-- A slice of strings that lies in memory: nil, and then of no elements, or a row of cells below the heap's end. -/
def StrsAt (w : World) (ao : Option Addr) (ss : List ByteArray) : Prop :=
  ∀ i, i < ss.length → ∃ b off, ao = some ⟨b, off, none⟩ ∧ b < w.heap.size ∧ w.cell? ⟨b, off + i, none⟩ = some (.string (ss.getD i ByteArray.empty))
/-- Its parts are no longer than an int tells, nor is it. -/
def StrsFit (ss : List ByteArray) (cap : Nat) : Prop := ss.length ≤ cap ∧ cap ≤ maxLen ∧ ∀ s ∈ ss, s.size ≤ maxLen

theorem strs_at {w : World} {ao : Option Addr} {ss : List ByteArray} (h : StrsAt w ao ss) (hs : ss ≠ []) :
    ∃ b off, ao = some ⟨b, off, none⟩ ∧ b < w.heap.size ∧ ∀ i, i < ss.length → w.cell? ⟨b, off + i, none⟩ = some (.string (ss.getD i ByteArray.empty)) := by
  have hl : 0 < ss.length := List.length_pos_iff.2 hs
  obtain ⟨b, off, ha, hb, _⟩ := h 0 hl
  refine ⟨b, off, ha, hb, fun i hi => ?_⟩
  obtain ⟨b', off', ha', _, hc'⟩ := h i hi
  rw [ha] at ha'
  simp only [Option.some.injEq, Addr.mk.injEq, and_true] at ha'
  obtain ⟨rfl, rfl⟩ := ha'
  exact hc'
theorem getD_fit {ss : List ByteArray} {cap : Nat} (h : StrsFit ss cap) (i : Nat) : (ss.getD i ByteArray.empty).size ≤ maxLen := by
  by_cases hi : i < ss.length
  · have e : ss.getD i ByteArray.empty = ss[i] := by simp [List.getD, hi]
    rw [e]; exact h.2.2 _ (List.getElem_mem hi)
  · have e : ss.getD i ByteArray.empty = ByteArray.empty := by simp [List.getD, hi]
    rw [e]; simp

/-- A new block of strings. -/
theorem strs_new (ss : List ByteArray) (t : TypeId) (w : World) (n : Nat) (hn : n = w.heap.size) (cs : Array Value) (hcs : cs = (ss.map Value.string).toArray) :
    StrsAt (w.alloc (.cells cs t)) (some ⟨n, 0, none⟩) ss := by
  subst hn hcs
  intro i hi
  refine ⟨w.heap.size, 0, rfl, by simp, ?_⟩
  rw [World.cell?_alloc_new]
  simp [List.getD, hi]
theorem StrsAt.kept {w w' : World} {ao : Option Addr} {ss : List ByteArray} (h : StrsAt w ao ss) {B : Nat} (hb : Below B w w') (hB : w.heap.size ≤ B) : StrsAt w' ao ss := by
  intro i hi
  obtain ⟨b, off, ha, hlt, hc⟩ := h i hi
  have hs := hb.size
  exact ⟨b, off, ha, by omega, (hb.cell (p := ⟨b, off + i, none⟩) (by simp; omega)).trans hc⟩
theorem StrsAt.below {w w' : World} {ao : Option Addr} {ss : List ByteArray} (h : StrsAt w ao ss) (hb : Below w.heap.size w w') : StrsAt w' ao ss := h.kept hb (Nat.le_refl _)
theorem StrsAt.alloc {w : World} {ao : Option Addr} {ss : List ByteArray} (h : StrsAt w ao ss) (o : Obj) : StrsAt (w.alloc o) ao ss :=
  h.below ((Below.refl _ _).alloc (Nat.le_refl _) o)
end Go.Proofs.Ytbajgpbekanodaa
