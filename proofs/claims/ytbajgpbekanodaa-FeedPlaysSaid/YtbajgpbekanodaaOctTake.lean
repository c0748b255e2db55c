/- The walks over octets.TakeNumber and the document's TakeNumber. -/
import Derived.Test.YtbajgpbekanodaaOctNum
import Derived.Deep.QuietTactic
import Derived.BigQuiet
namespace Go.Proofs.Ytbajgpbekanodaa
open Go.RowKit

theorem Below.drewN {B : Nat} {a w : World} (h : Below B a w) (n : Nat) : Below B a (w.drewN n) := ⟨h.os, h.tape, h.output, h.size, h.block⟩

/-- What TakeNumber's three boxes hold: the string, the place, whether it was short. -/
structure Boxes (B : Nat) (s : ByteArray) (p : Nat) (h : Bool) (w : World) : Prop where
  str : w.cell? ⟨B, 0, none⟩ = some (.string s)
  at_ : w.cell? ⟨B + 1, 0, none⟩ = some (.int .i64 (p : Int))
  short : w.cell? ⟨B + 1 + 1, 0, none⟩ = some (.bool h)
  f1 : w.frozen? ⟨B + 1, 0, none⟩ = false
  f2 : w.frozen? ⟨B + 1 + 1, 0, none⟩ = false

theorem Boxes.next {B : Nat} {s : ByteArray} {p : Nat} {h : Bool} {w : World} (k : Boxes B s p h w) : Boxes B s (p + 1) h (w.setCell ⟨B + 1, 0, none⟩ (.int .i64 ((p : Int) + 1))) := by
  refine ⟨?_, ?_, ?_, by rw [World.frozen?_setCell]; exact k.f1, by rw [World.frozen?_setCell]; exact k.f2⟩
  · rw [World.cell?_setCell_other w _ _ _ (by simp)]; exact k.str
  · rw [World.cell?_setCell_same w _ _ k.at_]; simp
  · rw [World.cell?_setCell_other w _ _ _ (by simp)]; exact k.short
theorem Boxes.ended {B : Nat} {s : ByteArray} {p : Nat} {h : Bool} {w : World} (k : Boxes B s p h w) : Boxes B s p true (w.setCell ⟨B + 1 + 1, 0, none⟩ (.bool true)) := by
  refine ⟨?_, ?_, ?_, by rw [World.frozen?_setCell]; exact k.f1, by rw [World.frozen?_setCell]; exact k.f2⟩
  · rw [World.cell?_setCell_other w _ _ _ (by simp)]; exact k.str
  · rw [World.cell?_setCell_other w _ _ _ (by simp)]; exact k.at_
  · rw [World.cell?_setCell_same w _ _ k.short]

/-- The three results. -/
def trip (r : Nat × Nat × Nat) : Value := .tuple #[.int .u64 (r.1 : Int), .int .i64 (r.2.1 : Int), .int .i64 (r.2.2 : Int)]

theorem boxes_new (s : ByteArray) (p : Nat) (w : World) (t1 t2 t3 : TypeId) : Boxes w.heap.size s p false (((w.alloc (.cells #[.string s] t1)).alloc (.cells #[.int .i64 (p : Int)] t2)).alloc (.cells #[.bool false] t3)) := by
  refine ⟨?_, ?_, ?_, ?_, ?_⟩
  · rw [World.cell?_alloc_past _ _ _ (by simp; omega), World.cell?_alloc_past _ _ _ (by simp), World.cell?_alloc_at _ _ _ _ rfl]; rfl
  · rw [World.cell?_alloc_past _ _ _ (by simp), World.cell?_alloc_at _ _ _ _ (by simp)]; rfl
  · rw [World.cell?_alloc_at _ _ _ _ (by simp)]; rfl
  · rw [World.frozen?_alloc_old _ _ _ (by simp)]
    have h := World.frozen?_alloc_mark (w.alloc (.cells #[.string s] t1)) #[.int .i64 (p : Int)] t2 0 0 0
    rw [World.size_alloc] at h
    exact h
  · have := World.frozen?_alloc_new ((w.alloc (.cells #[.string s] t1)).alloc (.cells #[.int .i64 (p : Int)] t2)) #[.bool false] t3 0
    simpa using this

end Go.Proofs.Ytbajgpbekanodaa
