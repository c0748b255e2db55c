/- A claim of a leaf (a text, two whole numbers, a text) as the reader reads it, opened. -/
import Derived.OpenShut
import Derived.Lib.SmallJoins
namespace Go.Proofs.Ytbajgpbekanodaa
open Go.Joins Go.ChangeShapes Go.WideShapes Go.RowKit Go.Deep

theorem open_claim {H : Type} {enc : TypeId × Value → H} {P : Program} {w : World} {base : Nat} {spare : Nat → Bool} {held : Bool} {r : Reach} {b0 : Nat} {t : TypeId} {f0 f1 f2 f3 : Field} {v : Value} {d : DataW H} {p : List MemPlace}
    (hs : P.underlying t = some (.struct #[f0, f1, f2, f3])) (hone : oneCellFields P #[f0, f1, f2, f3] = true) (hC : P.cellsOf t = 4)
    (u0 : P.underlying f0.type = some .string) (u1 : P.underlying f1.type = some (.int .i64)) (u2 : P.underlying f2.type = some (.int .i64)) (u3 : P.underlying f3.type = some .string)
    (hv : Value.okWide P w r b0 t v) (h : DataW.Trod enc P w base spare held t v d p) :
    ∃ (a : ByteArray) (n i : Int) (b : ByteArray), v = .agg #[.string a, .int .i64 n, .int .i64 i, .string b] ∧ ((-9223372036854775808 ≤ n ∧ n ≤ 9223372036854775807) ∧ -9223372036854775808 ≤ i ∧ i ≤ 9223372036854775807) := by
  obtain ⟨v0, v1, v2, v3, y0, y1, y2, y3, m, rfl, _, _, g0, g1, g2, g3⟩ := open_agg4 hs hone hC hv h
  obtain ⟨s0, h0, _, _⟩ := DataW.trod_string u0 g0
  obtain ⟨n1, h1, _, w1⟩ := DataW.trod_int u1 g1
  obtain ⟨n2, h2, _, w2⟩ := DataW.trod_int u2 g2
  obtain ⟨s3, h3, _, _⟩ := DataW.trod_string u3 g3
  simp at h0 h1 h2 h3
  subst h0 h1 h2 h3
  simp only [Lit.wf, Bool.and_eq_true, decide_eq_true_eq] at w1 w2
  exact ⟨s0, n1, n2, s3, rfl, w1, w2⟩
end Go.Proofs.Ytbajgpbekanodaa
