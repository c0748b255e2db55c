/- A slice of acts among the arguments, as the walks read it. -/
import Derived.Test.YtbajgpbekanodaaFeedActs
import Derived.Test.YtbajgpbekanodaaOpenEnts
import Derived.SliceStrings
namespace Go.Proofs.Ytbajgpbekanodaa
open Go.Joins Go.ChangeShapes Go.WideShapes Go.RowKit Go.Deep

section
variable {H : Type} {enc : TypeId × Value → H} {P : Program} {w : World} {base : Nat} {held : Bool}
theorem open_strsAt_of {t e : TypeId} {fuel : Nat} {cs : List Value} {x : DataW H × List MemPlace} (ht : P.underlying t = some (.slice e)) (he : P.underlying e = some .string) (hce : P.cellsOf e = 1) (hf : DataW.trod enc P w base (fun _ => true) held fuel t cs = some x) :
    ∃ (a : Option Addr) (cap : Nat) (ss : List ByteArray), cs = [.slice a ss.length cap] ∧ StrsFit ss cap ∧ StrsAt w a ss := by
  rcases open_strings ht he hce hf with ⟨rfl, _⟩ | ⟨y, len, cap, ss, rfl, _, hl, hm, hz, _, hcell, hws⟩
  · exact ⟨none, 0, [], rfl, ⟨by simp, by simp [maxLen], by simp⟩, fun i hi => by simp at hi⟩
  · have hz' : ss.length = cap := by simpa using hz
    have hlen : (ss.take len).length = len := by rw [List.length_take]; omega
    refine ⟨some y, cap, ss.take len, by rw [hlen], ⟨by rw [hlen]; exact hl, hm, fun s hs => hws s (List.mem_of_mem_take hs)⟩, fun i hi => ?_⟩
    have hi' : i < len ∧ i < ss.length := by simp at hi; omega
    have hc0 := hcell 0 (by omega)
    have hc := hcell i hi'.2
    obtain ⟨b, off, spot⟩ := y
    have hspot : spot = none := by simpa [Addr.add] using World.cell?_spot hc0
    subst hspot
    have hc' : w.cell? ⟨b, off + i, none⟩ = some (.string (ss.getD i ByteArray.empty)) := by rw [← add_plain]; exact hc
    refine ⟨b, off, rfl, by simpa using World.block_lt_of_cell? w _ hc', ?_⟩
    rw [hc']
    simp [List.getD, hi'.1]
theorem open_act {n : Nat} {e e1 e3 : TypeId} {f0 f1 f2 f3 g0 g1 g2 : Field} {cs : List Value} {x : DataW H × List MemPlace} (hs : P.underlying e = some (.struct #[f0, f1, f2, f3])) (hone : oneCellFields P #[f0, f1, f2, f3] = true) (hC : P.cellsOf e = 4)
    (u0 : P.underlying f0.type = some .bool) (u1 : P.underlying f1.type = some (.slice e1)) (s1 : P.underlying e1 = some .string) (k1 : P.cellsOf e1 = 1) (u2 : P.underlying f2.type = some .string) (u3 : P.underlying f3.type = some (.slice e3))
    (s3 : P.underlying e3 = some (.struct #[g0, g1, g2])) (hone3 : oneCellFields P #[g0, g1, g2] = true) (hC3 : P.cellsOf e3 = 3) (v0 : P.underlying g0.type = some (.int .i64)) (v1 : P.underlying g1.type = some .string) (v2 : P.underlying g2.type = some .string)
    (h : DataW.trod enc P w base (fun _ => true) held n e cs = some x) (hw : ∀ k ∈ x.1.weights P e, k ≤ reachBytes) :
    ∃ (y : Fd.Act) (bo : Option Addr) (bc : Nat) (eo : Option Addr) (ec : Nat), cs = [.bool y.take, .slice bo y.bodies.length bc, .string y.head, .slice eo y.entries.length ec] ∧ StrsFit y.bodies bc ∧ StrsAt w bo y.bodies ∧ EntsAt w eo y.entries ∧ EntsMost y.entries ∧ y.entries.length ≤ ec ∧ ec ≤ maxLen := by
  obtain ⟨y0, y1, y2, y3, m, hx, hl, h0, h1, h2, h3⟩ := trod_struct4 hs h
  obtain ⟨o0, k0⟩ := hone_of hone 0 f0 rfl
  obtain ⟨o1, q1⟩ := hone_of hone 1 f1 rfl
  obtain ⟨o2, k2⟩ := hone_of hone 2 f2 rfl
  obtain ⟨o3, k3⟩ := hone_of hone 3 f3 rfl
  rw [hC] at hl
  match cs, hl with
  | [c0, c1, c2, c3], _ =>
    simp only [o0, o1, o2, o3, k0, q1, k2, k3, List.drop, List.take] at h0 h1 h2 h3
    obtain ⟨tk, e0, _⟩ := DataW.trod_bool u0 h0
    obtain ⟨bo, bc, bods, e1', hsf, hsa⟩ := open_strsAt_of u1 s1 k1 h1
    obtain ⟨hd, e2, _, _⟩ := DataW.trod_string u2 h2
    simp only [List.cons.injEq, and_true] at e0 e1' e2
    subst e0 e1' e2 hx
    have hw3 : ∀ k ∈ y3.1.weights P f3.type, k ≤ reachBytes := fun k hk => hw k (by
      simp only [DataW.weights, hs, DataW.weightsEach, List.map_cons, List.map_nil, List.mem_append]
      right; right; right; left; exact hk)
    have hsh : ∃ a len cap, c3 = .slice a len cap := by
      rcases open_slice u3 h3 with ⟨hcs, _⟩ | ⟨a, len, cap, _, _, _, _, hcs, _⟩
      · simp only [List.cons.injEq, and_true] at hcs; exact ⟨_, _, _, hcs⟩
      · simp only [List.cons.injEq, and_true] at hcs; exact ⟨_, _, _, hcs⟩
    obtain ⟨eo, len, ec, rfl⟩ := hsh
    obtain ⟨ents, rfl, hea, hem, hel, hem2⟩ := open_entsAt_of u3 s3 hone3 hC3 v0 v1 v2 h3 hw3
    exact ⟨⟨tk, bods, hd, ents⟩, bo, bc, eo, ec, rfl, hsf, hsa, hea, hem, hel, hem2⟩
theorem open_actsAt {t e e1 e3 : TypeId} {f0 f1 f2 f3 g0 g1 g2 : Field} {a : Option Addr} {len cap : Nat} {d : DataW H} {p : List MemPlace} (ht : P.underlying t = some (.slice e)) (hs : P.underlying e = some (.struct #[f0, f1, f2, f3])) (hone : oneCellFields P #[f0, f1, f2, f3] = true) (hC : P.cellsOf e = 4)
    (u0 : P.underlying f0.type = some .bool) (u1 : P.underlying f1.type = some (.slice e1)) (s1 : P.underlying e1 = some .string) (k1 : P.cellsOf e1 = 1) (u2 : P.underlying f2.type = some .string) (u3 : P.underlying f3.type = some (.slice e3))
    (s3 : P.underlying e3 = some (.struct #[g0, g1, g2])) (hone3 : oneCellFields P #[g0, g1, g2] = true) (hC3 : P.cellsOf e3 = 3) (v0 : P.underlying g0.type = some (.int .i64)) (v1 : P.underlying g1.type = some .string) (v2 : P.underlying g2.type = some .string)
    (h : DataW.Trod enc P w base (fun _ => true) held t (.slice a len cap) d p) (hw : ∀ k ∈ d.weights P t, k ≤ reachBytes) : ∃ xs : List Fd.Act, len = xs.length ∧ ActsAt w a xs ∧ (xs.length : Int) ≤ 9223372036854775807 := by
  obtain ⟨fuel, hf⟩ := h
  have hf : DataW.trod enc P w base (fun _ => true) held fuel t [.slice a len cap] = some (d, p) := hf
  rcases open_slice ht hf with ⟨hcs, _⟩ | ⟨ad, l, c, m, n, D, Pl, hcs, _, hl, hm, hmm, hx, hall⟩
  · simp only [List.cons.injEq, Value.slice.injEq, and_true] at hcs
    obtain ⟨rfl, rfl, rfl⟩ := hcs
    exact ⟨[], rfl, (fun i hi => by simp at hi), by simp⟩
  · simp only [List.cons.injEq, Value.slice.injEq, and_true] at hcs
    obtain ⟨rfl, rfl, rfl⟩ := hcs
    simp only [if_true] at hmm
    subst hmm
    simp only [Prod.mk.injEq] at hx
    obtain ⟨hx, _⟩ := hx
    have each : ∀ i, i < len → ∃ y : Fd.Act, (∃ (bo : Option Addr) (bc : Nat) (eo : Option Addr) (ec : Nat), (∀ j u, [Value.bool y.take, .slice bo y.bodies.length bc, .string y.head, .slice eo y.entries.length ec][j]? = some u → w.cell? (ad.add (i * 4 + j)) = some u) ∧ StrsFit y.bodies bc ∧ StrsAt w bo y.bodies ∧ EntsAt w eo y.entries ∧ EntsMost y.entries ∧ y.entries.length ≤ ec ∧ ec ≤ maxLen) := fun i hi => by
      obtain ⟨cs', h1, h2⟩ := hall i (by omega)
      have hwi : ∀ k ∈ (D i).weights P e, k ≤ reachBytes := fun k hk => hw k (by
        rw [hx]
        simp only [DataW.weights, ht, List.mem_cons, List.mem_append]
        right; left
        exact weights_all (List.mem_map.2 ⟨i, List.mem_range.2 hi, rfl⟩) k hk)
      obtain ⟨y, bo, bc, eo, ec, rfl, r⟩ := open_act hs hone hC u0 u1 s1 k1 u2 u3 s3 hone3 hC3 v0 v1 v2 h2 hwi
      rw [hC] at h1
      obtain ⟨_, _, hcell⟩ := World.cells?_some h1
      refine ⟨y, bo, bc, eo, ec, fun j u hj => ?_, r⟩
      have hj4 : j < 4 := (List.getElem?_eq_some_iff.1 hj).1
      have := hcell j hj4
      rw [add_add] at this
      rw [this, hj]
    have hin : Inhabited Fd.Act := ⟨Act0⟩
    obtain ⟨f, hfn⟩ := choose_lt (α := Fd.Act) (h := each)
    have hget : ∀ i, i < len → ((List.range len).map f).getD i Act0 = f i := fun i hi => by simp [List.getD, hi]
    refine ⟨(List.range len).map f, by simp, fun i hi => ?_, by unfold maxLen at hm; simp; omega⟩
    have hi' : i < len := by simpa using hi
    obtain ⟨bo, bc, eo, ec, hc, r⟩ := hfn i hi'
    rw [hget i hi']
    have h0 := hc 0 _ rfl
    have h1 := hc 1 _ rfl
    have h2 := hc 2 _ rfl
    have h3 := hc 3 _ rfl
    obtain ⟨b, off, spot⟩ := ad
    have hspot : spot = none := by
      obtain ⟨_, _, _, _, hc9, _⟩ := hfn 0 (by omega)
      have h9 := hc9 0 _ rfl
      simpa [Addr.add] using World.cell?_spot h9
    subst hspot
    rw [add_plain] at h0 h1 h2 h3
    exact ⟨b, off, rfl, by simpa using World.block_lt_of_cell? w _ h0, bo, bc, eo, ec, ⟨h0, by rw [Nat.add_assoc]; exact h1, by rw [Nat.add_assoc]; exact h2, by rw [Nat.add_assoc]; exact h3⟩, r⟩
end
end Go.Proofs.Ytbajgpbekanodaa
