/- The mathematics of feeds: entries, what is hashed of them. Nothing of the program. -/
import Derived.Test.YtbajgpbekanodaaOctMathB
import Derived.WalkKit
namespace Go.Proofs.Ytbajgpbekanodaa
namespace Fd

structure Ent where
  seq : Int
  prev : ByteArray
  body : ByteArray
deriving DecidableEq
def Ent.cells (e : Ent) : List Value := [.int .i64 e.seq, .string e.prev, .string e.body]
def Ent.val (e : Ent) : Value := .agg #[.int .i64 e.seq, .string e.prev, .string e.body]
def flat (es : List Ent) : List Value := es.flatMap Ent.cells
/-- What is hashed of an entry. -/
def Ent.text (e : Ent) : ByteArray := Oct.numB (max e.seq 0).toNat ++ Oct.textB e.prev ++ Oct.textB e.body
/-- Bounds that the walks ask for. -/
def Ent.ok (e : Ent) : Prop := -9223372036854775808 ≤ e.seq ∧ e.seq ≤ 9223372036854775807 ∧ e.prev.size ≤ 140737488355328 ∧ e.body.size ≤ 140737488355328 ∧ e.prev.size + e.body.size ≤ 149000000000000
theorem flat_length (es : List Ent) : (flat es).length = es.length * 3 := by
  induction es with
  | nil => rfl
  | cons e es ih =>
    show (e.cells ++ flat es).length = _
    rw [List.length_append, ih, List.length_cons]
    show 3 + es.length * 3 = _
    omega
theorem flat_append (a b : List Ent) : flat (a ++ b) = flat a ++ flat b := by unfold flat; exact List.flatMap_append
theorem flat_one (e : Ent) : flat [e] = e.cells := by unfold flat; simp
end Fd
end Go.Proofs.Ytbajgpbekanodaa
