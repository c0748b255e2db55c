/- A step of a region that is guarded and not wanted. -/
import Derived.Test.YtbajgpbekanodaaRegionB
namespace Go.Proofs.Ytbajgpbekanodaa
open Go.RowKit

variable {P : Program} {ops : Array Oper} {R : Nat → World → Value → Prop} {Q : Exit → Act → World → Prop} {a0 : Act} {w0 : World} {i : Nat} {o : Oper}
theorem stepOk_skip (j : Nat) (d : Tmp) (b c : Bool) (hg : o.guard = some (j, b)) (hbc : c ≠ b) (hj : (o.after.any fun e => e.on == j && Region.binds .any e) = true) (hd : ((ops[j]?).bind (·.dst)) = some d) (hs : d < a0.tmps.size)
    (hRj : ∀ w v, R j w v → v = .bool c) (hu : ∀ w, R i w undef) : StepOk P ops R Q a0 w0 i o := by
  intro a w h1 h2 h3 h4
  have ht : Told ops R a0 w0 o a w := ⟨h1, h2, h3, h4⟩
  have hv : a.eval (.tmp d) = .bool c := hRj w _ (ht.dep j d hj hd)
  have hs' : d < a.tmps.size := by rw [h2]; exact hs
  have e : a.tmps[d]? = some (.bool c) := by
    have : a.tmps.getD d undef = .bool c := hv
    rw [Array.getD_eq_getD_getElem?, Array.getElem?_eq_getElem hs'] at this
    rw [Array.getElem?_eq_getElem hs']
    simpa using this
  rw [if_neg]
  · exact hu w
  · simp [Region.wanted, hg, yielded, hd, e, hbc]
theorem uncons {α : Type} {n : Nat} (l : List α) (h : l.length = n + 1) : ∃ x r, l = x :: r ∧ r.length = n := by
  cases l with
  | nil => simp at h
  | cons x r => exact ⟨x, r, rfl, by simpa using h⟩
end Go.Proofs.Ytbajgpbekanodaa
