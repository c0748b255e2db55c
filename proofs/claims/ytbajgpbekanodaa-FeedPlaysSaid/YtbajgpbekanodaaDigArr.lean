/- Whole arrays in memory: laws of a block known whole; the walks over digest.first, digest.rounds and the document's table. -/
import Derived.Test.YtbajgpbekanodaaDigRot
import Derived.Laws.Rows
import Derived.Below
import Derived.Deep.CutRange
import Derived.Outline
namespace Go.Proofs.Ytbajgpbekanodaa
open Go.RowKit

/-- Words as cells. -/
def cel (l : List Nat) : Array Value := (l.map fun n : Nat => Value.int .u32 (n : Int)).toArray
theorem cel_size (l : List Nat) : (cel l).size = l.length := by simp [cel]
theorem cel_get (l : List Nat) (i : Nat) (h : i < l.length) : (cel l)[i]? = some (.int .u32 ((l.getD i 0 : Nat) : Int)) := by simp [cel, List.getD, h]
theorem cel_one (l : List Nat) : (cel l).all (·.oneCell') = true := by
  rw [Array.all_eq_true]
  intro i hi
  simp [cel, Value.oneCell']
/-- The words of the rounds, as an array. -/
def kArr : Array Value := cel Sha.K
/-- A block that holds words. -/
def Words (w : World) (B : Nat) (l : List Nat) : Prop := ∃ t, w.heap[B]? = some (.cells (cel l) t (0, 0))
theorem Words.cell {w : World} {B : Nat} {l : List Nat} (h : Words w B l) (i : Nat) (hi : i < l.length) : w.cell? ⟨B, i, none⟩ = some (.int .u32 ((l.getD i 0 : Nat) : Int)) := by
  obtain ⟨t, h⟩ := h
  rw [cell_of_row w B i _ t _ h, cel_get l i hi]
theorem Words.frozen {w : World} {B : Nat} {l : List Nat} (h : Words w B l) (i : Nat) : w.frozen? ⟨B, i, none⟩ = false := by
  obtain ⟨t, h⟩ := h
  exact frozen_of_row w B i _ t h
theorem Words.lt {w : World} {B : Nat} {l : List Nat} (h : Words w B l) : B < w.heap.size := by
  obtain ⟨t, h⟩ := h
  exact (Array.getElem?_eq_some_iff.1 h).1
theorem Words.kept {w w' : World} {B N : Nat} {l : List Nat} (h : Words w B l) (hb : Below N w w') (hN : B < N) : Words w' B l := by
  obtain ⟨t, h⟩ := h
  exact ⟨t, (hb.block B hN).trans h⟩
theorem Words.below {w w' : World} {B : Nat} {l : List Nat} (h : Words w B l) (hb : Below w.heap.size w w') : Words w' B l := h.kept hb h.lt
theorem Words.drew {w : World} {B : Nat} {l : List Nat} (h : Words w B l) (n : Nat) : Words (w.drewN n) B l := h
theorem Words.alloc {w : World} {B : Nat} {l : List Nat} (h : Words w B l) (o : Obj) : Words (w.alloc o) B l := h.below ((Below.refl _ _).alloc (Nat.le_refl _) o)
theorem Words.set {w : World} {B : Nat} {l : List Nat} (h : Words w B l) (i v : Nat) : Words (w.setCell ⟨B, i, none⟩ (.int .u32 (v : Int))) B (l.set i v) := by
  obtain ⟨t, h⟩ := h
  refine ⟨t, ?_⟩
  rw [heap_setCell_same w B i _ t _ h]
  congr 2
  simp [cel]
theorem Words.other {w : World} {B : Nat} {l : List Nat} (h : Words w B l) {C : Nat} (hne : B ≠ C) (i : Nat) (v : Value) : Words (w.setCell ⟨C, i, none⟩ v) B l := by
  obtain ⟨t, h⟩ := h
  exact ⟨t, (heap_setCell_other w _ B v hne).trans h⟩
theorem words_new {w : World} (l : List Nat) (cs : Array Value) (t : TypeId) (h : cs = cel l) : Words (w.alloc (.cells cs t)) w.heap.size l := by
  subst h; exact ⟨t, heap_alloc_new w _⟩

theorem wpList_buildTo {P : Program} {ops : Array Oper} {rest : List Oper} {o : Oper} {a : Act} {w : World} {Q : Exit → Act → World → Prop} (hg : o.guard = none) (t : TypeId) (parts : Array (Nat × Operand)) (ho : o.op = .build t parts)
    (cells : Array Value) (hf : P.built t (parts.map fun (i, x) => (i, a.eval x)).toList = some cells)
    (h : wpList P ops Q rest (a.put o.dst (.agg cells)) w) : wpList P ops Q (o :: rest) a w :=
  wpList_build hg t parts ho (by rw [hf]; rfl) (by rw [hf]; exact h)

set_option maxRecDepth 100000 in
set_option maxHeartbeats 400000 in
theorem first_any (w : World) :
    Calls Try.prog 77 #[] w fun e w' => e = .returned (.agg (cel Sha.init.list)) ∧ Below w.heap.size w w' := by
  go_enter Try.func77, Try.ntmps77
  go_wp2_with fail
  exact bodyPost_ret (v := .agg (cel Sha.init.list)) (by simp [results, Try.results77, go_sem]; kernel_rfl) rfl ⟨rfl, (Below.refl _ _).alloc (Nat.le_refl _) _⟩

theorem below_setRow (N : Nat) (w : World) (g : Nat) (cs : Array Value) (h : N ≤ g) : Below N w (w.setRow g cs) :=
  ⟨rfl, rfl, rfl, by simp, fun k hk => setRow_other w g k cs (by omega)⟩

set_option maxRecDepth 100000 in
set_option maxHeartbeats 400000 in
theorem rounds_any (w : World) :
    Calls Try.prog 95 #[] w fun e w' => e = .returned (.agg kArr) ∧ Below w.heap.size w w' := by
  go_enter Try.func95, Try.ntmps95
  go_upto_region 1 with fail
  obtain ⟨cs0, hcs0, hsz0⟩ : ∃ cs0 : Array Value, cs0 = (Sha.K.map fun _ => Value.int .u32 0).toArray ∧ cs0.size = 64 := ⟨_, rfl, by kernel_rfl⟩
  obtain ⟨w1, hw1, hg, hb⟩ : ∃ w1 : World, w1 = w.alloc (.cells cs0 123) ∧ w1.heap[w.heap.size]? = some (.cells cs0 123 (0, 0)) ∧ Below w.heap.size w w1 := ⟨_, rfl, heap_alloc_new w _, (Below.refl _ _).alloc (Nat.le_refl _) _⟩
  have hw2 : w.alloc (.cells (Sha.K.map fun _ => Value.int .u32 0).toArray 123) = w1 := by rw [hw1, hcs0]
  clear hw1 hcs0
  refine (show (Code.wp Try.prog _ _ _ (w.alloc (.cells (Sha.K.map fun _ => Value.int .u32 0).toArray 123))) from ?_)
  rw [hw2]
  apply wp_region_lit
  refine wpList_buildTo rfl 123 _ rfl kArr (by kernel_rfl) ?_
  refine wpList_store_row rfl 123 _ _ rfl w.heap.size kArr rfl rfl 123 cs0 hg (by kernel_rfl) (by rw [hsz0]; kernel_rfl) (by kernel_rfl) ?_
  refine wpList_nil ?_
  go_wp2_with fail
  exact bodyPost_ret (results_cell_row rfl _ _ w.heap.size 123 kArr (0, 0) _ rfl (setRow_heap w1 w.heap.size cs0 kArr _ _ hg) Try.underlying123 rfl (by kernel_rfl)) rfl ⟨rfl, hb.trans (below_setRow w.heap.size w1 w.heap.size kArr (Nat.le_refl _))⟩

set_option maxRecDepth 100000 in
set_option maxHeartbeats 400000 in
theorem table_any (w : World) :
    Calls Try.prog 83 #[] w fun e w' => e = .returned (.agg kArr) ∧ Below w.heap.size w w' := by
  go_enter Try.func83, Try.ntmps83
  go_upto_region 1 with fail
  obtain ⟨cs0, hcs0, hsz0⟩ : ∃ cs0 : Array Value, cs0 = (Sha.K.map fun _ => Value.int .u32 0).toArray ∧ cs0.size = 64 := ⟨_, rfl, by kernel_rfl⟩
  obtain ⟨w1, hw1, hg, hb⟩ : ∃ w1 : World, w1 = w.alloc (.cells cs0 123) ∧ w1.heap[w.heap.size]? = some (.cells cs0 123 (0, 0)) ∧ Below w.heap.size w w1 := ⟨_, rfl, heap_alloc_new w _, (Below.refl _ _).alloc (Nat.le_refl _) _⟩
  have hw2 : w.alloc (.cells (Sha.K.map fun _ => Value.int .u32 0).toArray 123) = w1 := by rw [hw1, hcs0]
  clear hw1 hcs0
  refine (show (Code.wp Try.prog _ _ _ (w.alloc (.cells (Sha.K.map fun _ => Value.int .u32 0).toArray 123))) from ?_)
  rw [hw2]
  apply wp_region_lit
  refine wpList_buildTo rfl 123 _ rfl kArr (by kernel_rfl) ?_
  refine wpList_store_row rfl 123 _ _ rfl w.heap.size kArr rfl rfl 123 cs0 hg (by kernel_rfl) (by rw [hsz0]; kernel_rfl) (by kernel_rfl) ?_
  refine wpList_nil ?_
  go_wp2_with fail
  exact bodyPost_ret (results_cell_row rfl _ _ w.heap.size 123 kArr (0, 0) _ rfl (setRow_heap w1 w.heap.size cs0 kArr _ _ hg) Try.underlying123 rfl (by kernel_rfl)) rfl ⟨rfl, hb.trans (below_setRow w.heap.size w1 w.heap.size kArr (Nat.le_refl _))⟩
end Go.Proofs.Ytbajgpbekanodaa
