/- A slice of ints among the arguments, as the walks read it. -/
import Derived.Test.YtbajgpbekanodaaFeedArgs
import Derived.OpenShut
import Derived.ChangeSlices
namespace Go.Proofs.Ytbajgpbekanodaa
open Go.ChangeShapes Go.WideShapes Go.RowKit

theorem open_intsAt {H : Type} {enc : TypeId × Value → H} {P : Program} {w : World} {base : Nat} {held : Bool} {t e : TypeId} {a : Option Addr} {len cap : Nat} {d : DataW H} {p : List MemPlace}
    (ht : P.underlying t = some (.slice e)) (he : P.underlying e = some (.int .i64)) (hc : P.cellsOf e = 1) (h : DataW.Trod enc P w base (fun _ => true) held t (.slice a len cap) d p) :
    ∃ zs : List Int, len = zs.length ∧ IntsAt w a zs ∧ (len : Int) ≤ 9223372036854775807 := by
  obtain ⟨fuel, hf⟩ := h
  rcases open_ints ht he hc hf with ⟨hcs, _⟩ | ⟨x, l, c, zs, hcs, _, hl, hm, hz, _, hcell, hw⟩
  · simp [Value.cells] at hcs
    obtain ⟨rfl, rfl, rfl⟩ := hcs
    exact ⟨[], rfl, fun i hi => by simp at hi, by omega⟩
  · simp [Value.cells] at hcs
    obtain ⟨rfl, rfl, rfl⟩ := hcs
    have hz' : zs.length = cap := by simpa using hz
    unfold maxLen at hm
    refine ⟨zs.take len, by simp; omega, fun i hi => ?_, by omega⟩
    have hi' : i < len ∧ i < zs.length := by simp at hi; omega
    have hg : (zs.take len).getD i 0 = zs.getD i 0 := by simp [List.getD, hi'.1]
    rw [hg]
    have hc0 := hcell 0 (by omega)
    have hc := hcell i hi'.2
    obtain ⟨b, off, spot⟩ := x
    have hspot : spot = none := by simpa [Addr.add] using World.cell?_spot hc0
    subst hspot
    have hc' : w.cell? ⟨b, off + i, none⟩ = some (.int .i64 (zs.getD i 0)) := by rw [← add_plain]; exact hc
    have hmem : zs.getD i 0 ∈ zs := by rw [show zs.getD i 0 = zs[i] by simp [List.getD, hi'.2]]; exact List.getElem_mem hi'.2
    have hwf := hw _ hmem
    simp only [Lit.wf, Bool.and_eq_true, decide_eq_true_eq] at hwf
    exact ⟨⟨b, off, rfl, by simpa using World.block_lt_of_cell? w _ hc', hc'⟩, hwf⟩
end Go.Proofs.Ytbajgpbekanodaa
