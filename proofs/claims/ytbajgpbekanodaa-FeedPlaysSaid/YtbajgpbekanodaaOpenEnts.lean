/- A slice of entries among the arguments, as the walks read it. -/
import Derived.Test.YtbajgpbekanodaaFeedChain
import Derived.OpenShut
import Derived.Deep.Slices
import Derived.Deep.Strs
import Derived.Lib.SmallJoins
import Derived.SizedLaws
namespace Go.Proofs.Ytbajgpbekanodaa
open Go.ChangeShapes Go.WideShapes Go.RowKit Go.Deep

section
variable {H : Type} {enc : TypeId × Value → H} {P : Program} {w : World} {base : Nat} {held : Bool}
def EntMost (e : Fd.Ent) : Prop := -9223372036854775808 ≤ e.seq ∧ e.seq ≤ 9223372036854775807 ∧ e.prev.size ≤ 140737488351232 ∧ e.body.size ≤ 140737488351232
theorem open_ent {spare : Nat → Bool} {n : Nat} {e : TypeId} {f0 f1 f2 : Field} {cs : List Value} {x : DataW H × List MemPlace} (hs : P.underlying e = some (.struct #[f0, f1, f2])) (hone : oneCellFields P #[f0, f1, f2] = true) (hC : P.cellsOf e = 3)
    (u0 : P.underlying f0.type = some (.int .i64)) (u1 : P.underlying f1.type = some .string) (u2 : P.underlying f2.type = some .string) (h : DataW.trod enc P w base spare held n e cs = some x)
    (hw : ∀ k ∈ x.1.weights P e, k ≤ reachBytes) : ∃ en : Fd.Ent, cs = en.cells ∧ EntMost en := by
  obtain ⟨y0, y1, y2, m, hx, hl, h0, h1, h2⟩ := trod_struct3 hs h
  obtain ⟨o0, k0⟩ := hone_of hone 0 f0 rfl
  obtain ⟨o1, k1⟩ := hone_of hone 1 f1 rfl
  obtain ⟨o2, k2⟩ := hone_of hone 2 f2 rfl
  rw [hC] at hl
  match cs, hl with
  | [c0, c1, c2], _ =>
    simp only [o0, o1, o2, k0, k1, k2, List.drop, List.take] at h0 h1 h2
    obtain ⟨sq, e0, g0, wf0⟩ := DataW.trod_int u0 h0
    obtain ⟨pv, e1, g1, _⟩ := DataW.trod_string u1 h1
    obtain ⟨bd, e2, g2, _⟩ := DataW.trod_string u2 h2
    simp only [List.cons.injEq, and_true] at e0 e1 e2
    subst e0 e1 e2 g0 g1 g2 hx
    simp only [Lit.wf, Bool.and_eq_true, decide_eq_true_eq] at wf0
    have hwt : DataW.weights P e (.agg [.lit (.int .i64 sq), .lit (.string pv.data.toList), .lit (.string bd.data.toList)] : DataW H) = [pv.data.toList.length, bd.data.toList.length] := by
      simp [DataW.weights, DataW.weightsEach, hs]
    rw [hwt] at hw
    have hp := hw pv.data.toList.length (by simp)
    have hb := hw bd.data.toList.length (by simp)
    have ep : pv.data.toList.length = pv.size := by simp
    have eb : bd.data.toList.length = bd.size := by simp
    rw [ep] at hp
    rw [eb] at hb
    exact ⟨⟨sq, pv, bd⟩, rfl, wf0.1, wf0.2, by simpa [reachBytes] using hp, by simpa [reachBytes] using hb⟩
theorem weights_all {e : TypeId} : ∀ {l : List (DataW H)} {d : DataW H}, d ∈ l → ∀ k ∈ d.weights P e, k ∈ DataW.weightsAll P e l
  | x :: l, d, h, k, hk => by
    simp only [DataW.weightsAll, List.mem_append]
    rcases List.mem_cons.1 h with rfl | h
    · exact Or.inl hk
    · exact Or.inr (weights_all h k hk)
theorem open_entsAt_of {t e : TypeId} {f0 f1 f2 : Field} {a : Option Addr} {len cap fuel : Nat} {x : DataW H × List MemPlace} (ht : P.underlying t = some (.slice e)) (hs : P.underlying e = some (.struct #[f0, f1, f2])) (hone : oneCellFields P #[f0, f1, f2] = true) (hC : P.cellsOf e = 3)
    (u0 : P.underlying f0.type = some (.int .i64)) (u1 : P.underlying f1.type = some .string) (u2 : P.underlying f2.type = some .string) (hf : DataW.trod enc P w base (fun _ => true) held fuel t [.slice a len cap] = some x)
    (hw : ∀ k ∈ x.1.weights P t, k ≤ reachBytes) : ∃ es : List Fd.Ent, len = es.length ∧ EntsAt w a es ∧ EntsMost es ∧ es.length ≤ cap ∧ cap ≤ maxLen := by
  rcases open_slice ht hf with ⟨hcs, _⟩ | ⟨ad, l, c, m, n, D, Pl, hcs, _, hl, hm, hmm, hx, hall⟩
  · simp only [List.cons.injEq, Value.slice.injEq, and_true] at hcs
    obtain ⟨rfl, rfl, rfl⟩ := hcs
    exact ⟨[], rfl, fun i hi => by simp at hi, (fun e he => by cases he), by simp, by simp [maxLen]⟩
  · simp only [List.cons.injEq, Value.slice.injEq, and_true] at hcs
    obtain ⟨rfl, rfl, rfl⟩ := hcs
    simp only [if_true] at hmm
    subst hmm
    subst hx
    have each : ∀ i, i < len → ∃ en : Fd.Ent, (∀ j u, en.cells[j]? = some u → w.cell? (ad.add (i * 3 + j)) = some u) ∧ EntMost en := fun i hi => by
      obtain ⟨cs', h1, h2⟩ := hall i (by omega)
      have hwi : ∀ k ∈ (D i).weights P e, k ≤ reachBytes := fun k hk => hw k (by
        simp only [DataW.weights, ht, List.mem_cons, List.mem_append]
        right; left
        exact weights_all (List.mem_map.2 ⟨i, List.mem_range.2 hi, rfl⟩) k hk)
      obtain ⟨en, rfl, hmost⟩ := open_ent hs hone hC u0 u1 u2 h2 hwi
      rw [hC] at h1
      obtain ⟨_, _, hcell⟩ := World.cells?_some h1
      refine ⟨en, fun j u hj => ?_, hmost⟩
      have hj3 : j < 3 := (List.getElem?_eq_some_iff.1 hj).1
      have := hcell j hj3
      rw [add_add] at this
      rw [this, hj]
    have hin : Inhabited Fd.Ent := ⟨Ent0⟩
    obtain ⟨f, hfn⟩ := choose_lt (α := Fd.Ent) (h := each)
    have hget : ∀ i, i < len → ((List.range len).map f).getD i Ent0 = f i := fun i hi => by simp [List.getD, hi]
    refine ⟨(List.range len).map f, by simp, fun i hi => ?_, fun en hen => ?_, by simpa using hl, hm⟩
    · have hi' : i < len := by simpa using hi
      obtain ⟨hc, _⟩ := hfn i hi'
      rw [hget i hi']
      have h0 := hc 0 (.int .i64 (f i).seq) rfl
      have h1 := hc 1 (.string (f i).prev) rfl
      have h2 := hc 2 (.string (f i).body) rfl
      obtain ⟨b, off, spot⟩ := ad
      have hspot : spot = none := by
        have h9 := (hfn 0 (by omega)).1 0 (.int .i64 (f 0).seq) rfl
        simpa [Addr.add] using World.cell?_spot h9
      subst hspot
      rw [add_plain] at h0 h1 h2
      exact ⟨b, off, rfl, by simpa using World.block_lt_of_cell? w _ h0, h0, by rw [Nat.add_assoc]; exact h1, by rw [Nat.add_assoc]; exact h2⟩
    · obtain ⟨i, hi, rfl⟩ := List.mem_map.1 hen
      exact (hfn i (List.mem_range.1 hi)).2
theorem open_entsAt {t e : TypeId} {f0 f1 f2 : Field} {a : Option Addr} {len cap : Nat} {d : DataW H} {p : List MemPlace} (ht : P.underlying t = some (.slice e)) (hs : P.underlying e = some (.struct #[f0, f1, f2])) (hone : oneCellFields P #[f0, f1, f2] = true) (hC : P.cellsOf e = 3)
    (u0 : P.underlying f0.type = some (.int .i64)) (u1 : P.underlying f1.type = some .string) (u2 : P.underlying f2.type = some .string) (h : DataW.Trod enc P w base (fun _ => true) held t (.slice a len cap) d p)
    (hw : ∀ k ∈ d.weights P t, k ≤ reachBytes) : ∃ es : List Fd.Ent, len = es.length ∧ EntsAt w a es ∧ EntsMost es ∧ es.length ≤ cap ∧ cap ≤ maxLen := by
  obtain ⟨fuel, hf⟩ := h
  exact open_entsAt_of ht hs hone hC u0 u1 u2 (x := (d, p)) hf hw
theorem open_entry {spare : Nat → Bool} {r : Reach} {b0 : Nat} {t : TypeId} {f0 f1 f2 : Field} {v : Value} {d : DataW H} {p : List MemPlace} (hs : P.underlying t = some (.struct #[f0, f1, f2])) (hone : oneCellFields P #[f0, f1, f2] = true) (hC : P.cellsOf t = 3)
    (u0 : P.underlying f0.type = some (.int .i64)) (u1 : P.underlying f1.type = some .string) (u2 : P.underlying f2.type = some .string) (hv : Value.okWide P w r b0 t v) (h : DataW.Trod enc P w base spare held t v d p)
    (hw : ∀ k ∈ d.weights P t, k ≤ reachBytes) : ∃ (xs : Int) (xp xb : ByteArray), v = .agg #[.int .i64 xs, .string xp, .string xb] ∧ EntMost ⟨xs, xp, xb⟩ := by
  obtain ⟨cs, rfl, hsz⟩ := okWide_struct hs hv
  have hsz := hsz.trans hC
  obtain ⟨fuel, hf⟩ := h
  obtain ⟨l⟩ := cs
  match l, hsz with
  | [c0, c1, c2], _ =>
    obtain ⟨en, hcs, hm⟩ := open_ent (x := (d, p)) hs hone hC u0 u1 u2 hf hw
    have hc : [c0, c1, c2] = en.cells := by simpa [Value.cells] using hcs
    unfold Fd.Ent.cells at hc
    simp only [List.cons.injEq, and_true] at hc
    obtain ⟨rfl, rfl, rfl⟩ := hc
    exact ⟨en.seq, en.prev, en.body, rfl, hm⟩
end
end Go.Proofs.Ytbajgpbekanodaa
