/- Slices of ints in memory; parts of slices of strings. -/
import Derived.Test.YtbajgpbekanodaaFeedTwo
namespace Go.Proofs.Ytbajgpbekanodaa
open Go.RowKit

def IntsAt (w : World) (zo : Option Addr) (zs : List Int) : Prop :=
  ∀ i, i < zs.length → (∃ b off, zo = some ⟨b, off, none⟩ ∧ b < w.heap.size ∧ w.cell? ⟨b, off + i, none⟩ = some (.int .i64 (zs.getD i 0))) ∧ -9223372036854775808 ≤ zs.getD i 0 ∧ zs.getD i 0 ≤ 9223372036854775807
/-- The part from lo to hi. -/
def part (l : List ByteArray) (lo hi : Nat) : List ByteArray := (l.take hi).drop lo
theorem part_len (l : List ByteArray) (lo hi : Nat) (h : hi ≤ l.length) : (part l lo hi).length = hi - lo := by
  unfold part; rw [List.length_drop, List.length_take]; omega
theorem part_get (l : List ByteArray) (lo hi i : Nat) (hi' : i < hi - lo) : (part l lo hi).getD i ByteArray.empty = l.getD (lo + i) ByteArray.empty := by
  unfold part
  rw [List.getD_eq_getElem?_getD, List.getD_eq_getElem?_getD, List.getElem?_drop, List.getElem?_take_of_lt (by omega)]
theorem take_part (l : List ByteArray) (lo hi : Nat) (h : lo ≤ hi) : l.take hi = l.take lo ++ part l lo hi := by
  unfold part
  have := List.take_append_drop lo (l.take hi)
  rw [List.take_take, Nat.min_eq_left h] at this
  exact this.symm
theorem part_mem {l : List ByteArray} {lo hi : Nat} {s : ByteArray} (h : s ∈ part l lo hi) : s ∈ l := List.mem_of_mem_take (List.mem_of_mem_drop h)
theorem part_fit {l : List ByteArray} {cap : Nat} (h : StrsFit l cap) (lo hi : Nat) (h1 : hi ≤ l.length) : StrsFit (part l lo hi) (cap - lo) := by
  obtain ⟨a, b, c⟩ := h
  refine ⟨by rw [part_len l lo hi h1]; omega, by omega, fun s hs => c s (part_mem hs)⟩
theorem part_at {w : World} {ao : Option Addr} {l : List ByteArray} (h : StrsAt w ao l) (lo hi : Nat) (h1 : hi ≤ l.length) (bo : Option Addr) (hb : ∀ b off, ao = some ⟨b, off, none⟩ → lo < hi → bo = some ⟨b, off + lo, none⟩) : StrsAt w bo (part l lo hi) := by
  intro i hi'
  rw [part_len l lo hi h1] at hi'
  obtain ⟨b, off, ha, hlt, hc⟩ := h (lo + i) (by omega)
  refine ⟨b, off + lo, hb b off ha (by omega), hlt, ?_⟩
  rw [part_get l lo hi i hi', show off + lo + i = off + (lo + i) by omega]
  exact hc
theorem runs_part (H : ByteArray → ByteArray) (l : List ByteArray) (lo hi : Nat) (h : lo ≤ hi) : runs H (l.take hi) = (runs H (l.take lo)).adds H (part l lo hi) := by
  rw [take_part l lo hi h]; exact adds_append H stE _ _
theorem any_join {l : List ByteArray} {lo hi : Nat} (h : lo ≤ hi) (h1 : (l.take lo).any isBig = false) (h2 : (part l lo hi).any isBig = false) : (l.take hi).any isBig = false := by
  rw [take_part l lo hi h, List.any_append, h1, h2]; rfl
end Go.Proofs.Ytbajgpbekanodaa
