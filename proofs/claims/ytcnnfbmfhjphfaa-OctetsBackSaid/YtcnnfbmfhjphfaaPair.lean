/- An array of two strings as the reader reads it, opened. -/
import Derived.OpenShut
import Derived.SizedLaws
import Derived.ShutString
namespace Go.Proofs.Ytcnnfbmfhjphfaa
open Go.ChangeShapes Go.WideShapes

theorem open_strPair {H : Type} {enc : TypeId × Value → H} {P : Program} {w : World} {base : Nat} {spare : Nat → Bool} {held : Bool} {r : Reach} {b0 : Nat} {t e : TypeId} {v : Value} {d : DataW H} {ps : List MemPlace}
    (ht : P.underlying t = some (.array 2 e)) (he : P.underlying e = some .string) (hce : P.cellsOf e = 1) (hct : P.cellsOf t = 2)
    (hval : Value.okWide P w r b0 t v) (h : DataW.Trod enc P w base spare held t v d ps) :
    ∃ a b : ByteArray, v = .agg #[.string a, .string b] ∧ d = .agg [.lit (.string a.data.toList), .lit (.string b.data.toList)] ∧ ps = [] := by
  unfold Value.okWide at hval
  rw [ht] at hval
  simp only at hval
  obtain ⟨cs, rfl, hsz, _⟩ := hval
  rw [hct] at hsz
  obtain ⟨l⟩ := cs
  match l, hsz with
  | [c0, c1], _ =>
    obtain ⟨fuel, hf⟩ := h
    have hcells : (Value.agg ⟨[c0, c1]⟩).cells.toList = [c0, c1] := rfl
    rw [hcells] at hf
    obtain ⟨xs, m, _, hx, _, hlen, hget⟩ := DataW.trod_array ht hf
    match xs, hlen with
    | [y0, y1], _ =>
      have g0 := hget 0 (by omega)
      have g1 := hget 1 (by omega)
      rw [hce] at g0 g1
      simp at g0 g1
      obtain ⟨s0, h0, k0, _⟩ := DataW.trod_string he g0
      obtain ⟨s1, h1, k1, _⟩ := DataW.trod_string he g1
      simp at h0 h1
      subst h0 h1 k0 k1
      simp only [Prod.mk.injEq] at hx
      obtain ⟨rfl, rfl⟩ := hx
      exact ⟨s0, s1, rfl, by simp, by simp⟩
theorem sized_pair {H : Type} {P : Program} {ts : List TypeId} {ds : List (DataW H)} {j : Nat} {t e : TypeId} {a b : List UInt8} (h : (DataW.weightsEach P ts ds).all (· ≤ reachBytes) = true) (hj : ts[j]? = some t)
    (hd : ds[j]? = some (.agg [.lit (.string a), .lit (.string b)])) (ht : P.underlying t = some (.array 2 e)) : a.length ≤ reachBytes ∧ b.length ≤ reachBytes := by
  have key : ∀ x, x ∈ [a.length, b.length] → x ≤ reachBytes := by
    intro x hx
    have := List.all_eq_true.1 h _ (DataW.weights_mem_each hj hd x (by simpa [DataW.weights, DataW.weightsAll, ht] using hx))
    simpa using this
  exact ⟨key _ (by simp), key _ (by simp)⟩
end Go.Proofs.Ytcnnfbmfhjphfaa
