/- Entries in memory; what '==' says of two of them; the walk over the document's Same. -/
import Derived.Test.YtbajgpbekanodaaFeedText
import Derived.Test.YtbajgpbekanodaaDigProves
import Derived.Laws.StructEq
namespace Go.Proofs.Ytbajgpbekanodaa
open Go.RowKit

theorem toList_ne {x y : ByteArray} (h : x ≠ y) : ¬ x.toList = y.toList := fun e => by
  have := bytes_beq x y
  rw [decide_eq_false h] at this
  rw [beq_eq_false_iff_ne] at this
  exact this e
theorem equal_ent_raw (a a' : Int) (p p' b b' : ByteArray) (w : World) : (Op.equalIn 10000 82 (.agg #[.int .i64 a, .string p, .string b]) (.agg #[.int .i64 a', .string p', .string b'])).run Try.prog w = .ok (decide (a = a' ∧ p = p' ∧ b = b')) w := by
  have u3 := Try.underlying3
  have u9 := Try.underlying9
  have a3 := Try.isAgg3
  have z3 := Try.sizeOf3
  have a9 := Try.isAgg9
  have z9 := Try.sizeOf9
  have hS : Try.prog.underlying 82 = some (.struct (Try.prog.fieldsOf 82)) := by kernel_rfl
  have hp : Try.prog.stoodInHeld 82 = false := by kernel_rfl
  rw [show (10000 : Nat) = 9999 + 1 from rfl, run_equalIn_agg w 9999 82 _ _ hS hp]
  simp only [Program.fieldsOf, Try.underlying82]
  go_simp
  by_cases h1 : a = a'
  · by_cases h2 : p = p'
    · subst h2
      by_cases h3 : b = b'
      · subst h3
        simp [h1]
      · have n := toList_ne h3
        simp [h1, h3, n]
    · have n := toList_ne h2
      simp [h1, h2, n]
  · simp [h1]
theorem equal_ent (x y : Fd.Ent) (w : World) : (Op.equalIn 10000 82 x.val y.val).run Try.prog w = .ok (decide (x = y)) w := by
  obtain ⟨a, p, b⟩ := x
  obtain ⟨a', p', b'⟩ := y
  have h := equal_ent_raw a a' p p' b b' w
  have e : decide ((⟨a, p, b⟩ : Fd.Ent) = ⟨a', p', b'⟩) = decide (a = a' ∧ p = p' ∧ b = b') := by
    rw [decide_eq_decide, Fd.Ent.mk.injEq]
  rw [e]
  exact h
theorem guard_ent : Try.prog.eqGuardType Try.prog.depth 82 = false := by kernel_rfl

/-! ### Entries in memory -/
def Ent0 : Fd.Ent := ⟨0, ByteArray.empty, ByteArray.empty⟩
/-- One entry's three cells. -/
def EntAt (w : World) (b o : Nat) (e : Fd.Ent) : Prop := w.cell? ⟨b, o, none⟩ = some (.int .i64 e.seq) ∧ w.cell? ⟨b, o + 1, none⟩ = some (.string e.prev) ∧ w.cell? ⟨b, o + 2, none⟩ = some (.string e.body)
def EntsAt (w : World) (a : Option Addr) (es : List Fd.Ent) : Prop := ∀ i, i < es.length → ∃ b off, a = some ⟨b, off, none⟩ ∧ b < w.heap.size ∧ EntAt w b (off + i * 3) (es.getD i Ent0)
def EntsFit (es : List Fd.Ent) (cap : Nat) : Prop := es.length ≤ cap ∧ cap ≤ maxLen ∧ ∀ e ∈ es, e.ok
theorem EntAt.kept {w w' : World} {b o N : Nat} {e : Fd.Ent} (h : EntAt w b o e) (hb : Below N w w') (hN : b < N) : EntAt w' b o e :=
  ⟨(hb.cell (p := ⟨b, o, none⟩) hN).trans h.1, (hb.cell (p := ⟨b, o + 1, none⟩) hN).trans h.2.1, (hb.cell (p := ⟨b, o + 2, none⟩) hN).trans h.2.2⟩
theorem EntsAt.kept {w w' : World} {a : Option Addr} {es : List Fd.Ent} {N : Nat} (h : EntsAt w a es) (hb : Below N w w') (hN : w.heap.size ≤ N) : EntsAt w' a es := fun i hi => by
  obtain ⟨b, off, ha, hlt, hc⟩ := h i hi
  exact ⟨b, off, ha, by have := hb.size; omega, hc.kept hb (by omega)⟩
theorem entsAt_take {w : World} {a : Option Addr} {es : List Fd.Ent} (h : EntsAt w a es) (k : Nat) : EntsAt w a (es.take k) := fun i hi => by
  rw [List.length_take] at hi
  obtain ⟨b, off, ha, hlt, hc⟩ := h i (by omega)
  refine ⟨b, off, ha, hlt, ?_⟩
  have e : (es.take k).getD i Ent0 = es.getD i Ent0 := by
    rw [List.getD_eq_getElem?_getD, List.getD_eq_getElem?_getD, List.getElem?_take_of_lt (by omega)]
  rw [e]; exact hc
theorem entsAt_drop {w : World} {b off : Nat} {es : List Fd.Ent} (h : EntsAt w (some ⟨b, off, none⟩) es) (k : Nat) : EntsAt w (some ⟨b, off + k * 3, none⟩) (es.drop k) := fun i hi => by
  rw [List.length_drop] at hi
  obtain ⟨b', off', ha, hlt, hc⟩ := h (k + i) (by omega)
  simp at ha
  obtain ⟨rfl, rfl⟩ := ha
  refine ⟨b, off + k * 3, rfl, hlt, ?_⟩
  have e : (es.drop k).getD i Ent0 = es.getD (k + i) Ent0 := by
    rw [List.getD_eq_getElem?_getD, List.getD_eq_getElem?_getD, List.getElem?_drop]
  rw [e, show off + k * 3 + i * 3 = off + (k + i) * 3 by omega]
  exact hc
theorem flat_get (es : List Fd.Ent) : ∀ (i j : Nat) (u : Value), i < es.length → (es.getD i Ent0).cells[j]? = some u → (Fd.flat es)[i * 3 + j]? = some u := by
  induction es with
  | nil => intro i j u h; simp at h
  | cons e es ih =>
    intro i j u h hu
    have hf : Fd.flat (e :: es) = e.cells ++ Fd.flat es := rfl
    have hl : e.cells.length = 3 := rfl
    cases i with
    | zero =>
      have hj : j < 3 := (List.getElem?_eq_some_iff.1 hu).1
      rw [hf, List.getElem?_append_left (by omega), Nat.zero_mul, Nat.zero_add]
      simpa using hu
    | succ i =>
      rw [hf, List.getElem?_append_right (by omega), hl, show (i + 1) * 3 + j - 3 = i * 3 + j by omega]
      exact ih i j u (by simpa using h) (by simpa using hu)
/-- What a call owns, it can read. -/
theorem entsAt_owns {w : World} {B : Nat} {v : Value} {es : List Fd.Ent} (h : w.ownsRow B 82 3 v es.length (Fd.flat es)) : ∃ ao cap, v = .slice ao es.length cap ∧ EntsAt w ao es ∧ es.length ≤ cap ∧ cap ≤ maxLen := by
  rcases h.2 with ⟨rfl, h0⟩ | ⟨g, cap, cur, rfl, _, hg, hnc, hcm, _⟩
  · have : es = [] := List.eq_nil_of_length_eq_zero h0
    subst this
    exact ⟨none, 0, rfl, fun i hi => by simp at hi, Nat.le_refl _, by simp [maxLen]⟩
  · refine ⟨some ⟨g, 0, none⟩, cap, rfl, fun i hi => ⟨g, 0, rfl, (Array.getElem?_eq_some_iff.1 hg).1, ?_⟩, hnc, hcm⟩
    have hc : ∀ j u, (es.getD i Ent0).cells[j]? = some u → w.cell? ⟨g, 0 + i * 3 + j, none⟩ = some u := fun j u hu => by
      have := h.cells (g := g) rfl (i * 3 + j) u (flat_get es i j u hi hu)
      rw [Go.WideShapes.add_plain] at this
      rw [← this, Nat.add_assoc]
    exact ⟨hc 0 _ rfl, hc 1 _ rfl, hc 2 _ rfl⟩

/-! ### Same -/
/-- Whether two lists are one. -/
theorem list_ext_ent {a b : List Fd.Ent} (hl : a.length = b.length) (h : ∀ i, i < a.length → a.getD i Ent0 = b.getD i Ent0) : a = b := by
  apply List.ext_getElem hl
  intro i h1 h2
  have := h i h1
  simpa [List.getD, h1, h2] using this

set_option maxRecDepth 100000 in
set_option maxHeartbeats 2000000 in
theorem same39_any (a b : List Fd.Ent) (ao bo : Option Addr) (c1 c2 : Nat) (w : World) (ha : EntsAt w ao a) (hb : EntsAt w bo b) (hla : (a.length : Int) ≤ 9223372036854775807) :
    Calls Try.prog 38 #[.slice ao a.length c1, .slice bo b.length c2] w fun e w' => e = .returned (.bool (decide (a = b))) ∧ Below w.heap.size w w' := by
  by_cases hlen : a.length = b.length
  · rw [← hlen]
    obtain ⟨n, hn⟩ : ∃ n, n = a.length := ⟨_, rfl⟩
    have HN := Lib.hid hn
    have HM : Hid (n = b.length) := hn.trans hlen
    rw [← hn] at hla ⊢
    have HA := Lib.hid ha
    have HB := Lib.hid hb
    clear hn hlen ha hb
    go_enter Try.func38, Try.ntmps38
    go_wp2_with fail
    go_loopw [5] (fun i wr => ∃ k : Nat, (k : Int) ≤ (n : Int) ∧ i = .int .i64 (k : Int) ∧ Hid (∀ i, i < k → a.getD i Ent0 = b.getD i Ent0) ∧ Hid (Below w.heap.size w wr)) (fun i _ => n - (intOf i).toNat)
    case atStart => exact ⟨0, by omega, rfl, fun i hi => absurd hi (Nat.not_lt_zero _), Below.refl _ _⟩
    case round =>
      obtain ⟨k, hk, rfl, HEQ, HBE⟩ := hrel
      have hk0 : (0 : Int) ≤ (k : Int) := Int.natCast_nonneg _
      by_cases hlt : (k : Int) < (n : Int)
      · obtain ⟨b1, o1, rfl, hl1, hc1⟩ := HA.out k (by rw [← HN.out]; omega)
        obtain ⟨b2, o2, rfl, hl2, hc2⟩ := HB.out k (by rw [← HM.out]; omega)
        have hc1 := hc1.kept HBE.out hl1
        have hc2 := hc2.kept HBE.out hl2
        obtain ⟨x, hx⟩ : ∃ x, x = a.getD k Ent0 := ⟨_, rfl⟩
        obtain ⟨y, hy⟩ : ∃ y, y = b.getD k Ent0 := ⟨_, rfl⟩
        rw [← hx] at hc1
        rw [← hy] at hc2
        have HX := Lib.hid hx
        have HY := Lib.hid hy
        have heq := equal_ent x y
        have hgd := guard_ent
        clear hx hy hl1 hl2
        by_cases hxy : x = y
        · rw [decide_eq_true hxy] at heq
          have HXY := Lib.hid hxy
          clear hxy
          obtain ⟨xs, xp, xb⟩ := x
          obtain ⟨ys, yp, yb⟩ := y
          obtain ⟨ha0, ha1, ha2⟩ := hc1
          obtain ⟨hb0, hb1, hb2⟩ := hc2
          unfold Fd.Ent.val at heq
          simp only at ha0 ha1 ha2 hb0 hb1 hb2 heq
          go_wp2_with fail
          refine wp_region_puts2 (R := fun qi w' v => v = [Value.slice (some ⟨b1, o1, none⟩) n c1, .int .i64 (k : Int), .pointer (some ⟨b1, o1 + k * 3, none⟩), .agg #[.int .i64 xs, .string xp, .string xb], .slice (some ⟨b2, o2, none⟩) n c2, .int .i64 (k : Int), .pointer (some ⟨b2, o2 + k * 3, none⟩), .agg #[.int .i64 ys, .string yp, .string yb], .bool false].getD qi undef)
            (by kernel_rfl) (by kernel_rfl) (by kernel_rfl) ?hRR (by kernel_rfl) (steps_of ?hs) ?hd
          case hRR =>
            intro qi w1 w2 v hb hv
            exact hv
          case hs =>
            refine ⟨?_, ?_, ?_, ?_, ?_, ?_, ?_, ?_, ?_, trivial⟩
            · refine stepOk_value rfl fun a w5 ht => ?_
              have e0 : a.tmps[0]?.getD undef = .slice (some ⟨b1, o1, none⟩) n c1 := ht.old' 0 (.slice (some ⟨b1, o1, none⟩) n c1) (by kernel_rfl) rfl
              exact ⟨Value.slice (some ⟨b1, o1, none⟩) n c1, w5, by go_simp, Below.refl _ _, rfl⟩
            · refine stepOk_value rfl fun a w5 ht => ?_
              have e5 : a.tmps[5]?.getD undef = .int .i64 (k : Int) := ht.old' 5 (.int .i64 (k : Int)) (by kernel_rfl) rfl
              exact ⟨.int .i64 (k : Int), w5, by go_simp, Below.refl _ _, rfl⟩
            · refine stepOk_value rfl fun a w5 ht => ?_
              have e17 : a.tmps[17]?.getD undef = Value.slice (some ⟨b1, o1, none⟩) n c1 := ht.dep' 0 17 (by kernel_rfl) rfl
              have e18 : a.tmps[18]?.getD undef = .int .i64 (k : Int) := ht.dep' 1 18 (by kernel_rfl) rfl
              exact ⟨.pointer (some ⟨b1, o1 + k * 3, none⟩), w5, by go_simp, Below.refl _ _, rfl⟩
            · refine stepOk_value rfl fun a w5 ht => ?_
              have e19 : a.tmps[19]?.getD undef = .pointer (some ⟨b1, o1 + k * 3, none⟩) := ht.dep' 2 19 (by kernel_rfl) rfl
              have h00 := (ht.below.cell (p := ⟨b1, o1 + k * 3, none⟩) (World.block_lt_of_cell? _ _ ha0)).trans ha0
              have h11 := (ht.below.cell (p := ⟨b1, o1 + k * 3 + 1, none⟩) (World.block_lt_of_cell? _ _ ha1)).trans ha1
              have h22 := (ht.below.cell (p := ⟨b1, o1 + k * 3 + 2, none⟩) (World.block_lt_of_cell? _ _ ha2)).trans ha2
              exact ⟨.agg #[.int .i64 xs, .string xp, .string xb], w5, by go_simp, Below.refl _ _, rfl⟩
            · refine stepOk_value rfl fun a w5 ht => ?_
              have e1 : a.tmps[1]?.getD undef = .slice (some ⟨b2, o2, none⟩) n c2 := ht.old' 1 (.slice (some ⟨b2, o2, none⟩) n c2) (by kernel_rfl) rfl
              exact ⟨.slice (some ⟨b2, o2, none⟩) n c2, w5, by go_simp, Below.refl _ _, rfl⟩
            · refine stepOk_value rfl fun a w5 ht => ?_
              have e5 : a.tmps[5]?.getD undef = .int .i64 (k : Int) := ht.old' 5 (.int .i64 (k : Int)) (by kernel_rfl) rfl
              exact ⟨.int .i64 (k : Int), w5, by go_simp, Below.refl _ _, rfl⟩
            · refine stepOk_value rfl fun a w5 ht => ?_
              have e21 : a.tmps[21]?.getD undef = .slice (some ⟨b2, o2, none⟩) n c2 := ht.dep' 4 21 (by kernel_rfl) rfl
              have e22 : a.tmps[22]?.getD undef = .int .i64 (k : Int) := ht.dep' 5 22 (by kernel_rfl) rfl
              exact ⟨.pointer (some ⟨b2, o2 + k * 3, none⟩), w5, by go_simp, Below.refl _ _, rfl⟩
            · refine stepOk_value rfl fun a w5 ht => ?_
              have e23 : a.tmps[23]?.getD undef = .pointer (some ⟨b2, o2 + k * 3, none⟩) := ht.dep' 6 23 (by kernel_rfl) rfl
              have h00 := (ht.below.cell (p := ⟨b2, o2 + k * 3, none⟩) (World.block_lt_of_cell? _ _ hb0)).trans hb0
              have h11 := (ht.below.cell (p := ⟨b2, o2 + k * 3 + 1, none⟩) (World.block_lt_of_cell? _ _ hb1)).trans hb1
              have h22 := (ht.below.cell (p := ⟨b2, o2 + k * 3 + 2, none⟩) (World.block_lt_of_cell? _ _ hb2)).trans hb2
              exact ⟨.agg #[.int .i64 ys, .string yp, .string yb], w5, by go_simp, Below.refl _ _, rfl⟩
            · refine stepOk_value rfl fun a w5 ht => ?_
              have e20 : a.tmps[20]?.getD undef = .agg #[.int .i64 xs, .string xp, .string xb] := ht.dep' 3 20 (by kernel_rfl) rfl
              have e24 : a.tmps[24]?.getD undef = .agg #[.int .i64 ys, .string yp, .string yb] := ht.dep' 7 24 (by kernel_rfl) rfl
              exact ⟨.bool false, w5, by go_simp, Below.refl _ _, rfl⟩
          case hd =>
            intro vs w8 hl hb8 hvs
            have hl : vs.length = 9 := hl
            obtain ⟨v0, r0, rfl, l0⟩ := uncons vs hl
            obtain ⟨v1, r1, rfl, l1⟩ := uncons r0 l0
            obtain ⟨v2, r2, rfl, l2⟩ := uncons r1 l1
            obtain ⟨v3, r3, rfl, l3⟩ := uncons r2 l2
            obtain ⟨v4, r4, rfl, l4⟩ := uncons r3 l3
            obtain ⟨v5, r5, rfl, l5⟩ := uncons r4 l4
            obtain ⟨v6, r6, rfl, l6⟩ := uncons r5 l5
            obtain ⟨v7, r7, rfl, l7⟩ := uncons r6 l6
            obtain ⟨v8, r8, rfl, l8⟩ := uncons r7 l7
            obtain rfl := List.eq_nil_of_length_eq_zero l8
            have h8 : v8 = .bool false := hvs 8 (by decide)
            subst h8
            clear hvs
            simp only [puts, List.map, go_sem, List.setIfInBounds_toArray, List.set_cons_succ, List.set_cons_zero]
            have HBE8 : Hid (Below w.heap.size w w8) := HBE.out.trans (hb8.mono HBE.out.size)
            have HEQ2 : Hid (∀ i, i < k + 1 → a.getD i Ent0 = b.getD i Ent0) := fun i hi => by
              by_cases h : i < k
              · exact HEQ.out i h
              · obtain rfl : i = k := by omega
                rw [← HX.out, ← HY.out, HXY.out]
            clear HBE hb8 ha0 ha1 ha2 hb0 hb1 hb2 heq hgd HEQ
            go_wp2_with fail
            go_roundw
            case rel => exact ⟨k + 1, by omega, by go_num, HEQ2, HBE8⟩
            case measure => simp [intOf]; omega
        · rw [decide_eq_false hxy] at heq
          have HNO : Hid (decide (a = b) = false) := decide_eq_false fun h => hxy (by rw [HX.out, HY.out, h])
          clear hxy
          obtain ⟨xs, xp, xb⟩ := x
          obtain ⟨ys, yp, yb⟩ := y
          obtain ⟨ha0, ha1, ha2⟩ := hc1
          obtain ⟨hb0, hb1, hb2⟩ := hc2
          unfold Fd.Ent.val at heq
          simp only at ha0 ha1 ha2 hb0 hb1 hb2 heq
          go_wp2_with fail
          refine wp_region_puts2 (R := fun qi w' v => v = [Value.slice (some ⟨b1, o1, none⟩) n c1, .int .i64 (k : Int), .pointer (some ⟨b1, o1 + k * 3, none⟩), .agg #[.int .i64 xs, .string xp, .string xb], .slice (some ⟨b2, o2, none⟩) n c2, .int .i64 (k : Int), .pointer (some ⟨b2, o2 + k * 3, none⟩), .agg #[.int .i64 ys, .string yp, .string yb], .bool true].getD qi undef)
            (by kernel_rfl) (by kernel_rfl) (by kernel_rfl) ?hRR (by kernel_rfl) (steps_of ?hs) ?hd
          case hRR =>
            intro qi w1 w2 v hb hv
            exact hv
          case hs =>
            refine ⟨?_, ?_, ?_, ?_, ?_, ?_, ?_, ?_, ?_, trivial⟩
            · refine stepOk_value rfl fun a w5 ht => ?_
              have e0 : a.tmps[0]?.getD undef = .slice (some ⟨b1, o1, none⟩) n c1 := ht.old' 0 (.slice (some ⟨b1, o1, none⟩) n c1) (by kernel_rfl) rfl
              exact ⟨Value.slice (some ⟨b1, o1, none⟩) n c1, w5, by go_simp, Below.refl _ _, rfl⟩
            · refine stepOk_value rfl fun a w5 ht => ?_
              have e5 : a.tmps[5]?.getD undef = .int .i64 (k : Int) := ht.old' 5 (.int .i64 (k : Int)) (by kernel_rfl) rfl
              exact ⟨.int .i64 (k : Int), w5, by go_simp, Below.refl _ _, rfl⟩
            · refine stepOk_value rfl fun a w5 ht => ?_
              have e17 : a.tmps[17]?.getD undef = Value.slice (some ⟨b1, o1, none⟩) n c1 := ht.dep' 0 17 (by kernel_rfl) rfl
              have e18 : a.tmps[18]?.getD undef = .int .i64 (k : Int) := ht.dep' 1 18 (by kernel_rfl) rfl
              exact ⟨.pointer (some ⟨b1, o1 + k * 3, none⟩), w5, by go_simp, Below.refl _ _, rfl⟩
            · refine stepOk_value rfl fun a w5 ht => ?_
              have e19 : a.tmps[19]?.getD undef = .pointer (some ⟨b1, o1 + k * 3, none⟩) := ht.dep' 2 19 (by kernel_rfl) rfl
              have h00 := (ht.below.cell (p := ⟨b1, o1 + k * 3, none⟩) (World.block_lt_of_cell? _ _ ha0)).trans ha0
              have h11 := (ht.below.cell (p := ⟨b1, o1 + k * 3 + 1, none⟩) (World.block_lt_of_cell? _ _ ha1)).trans ha1
              have h22 := (ht.below.cell (p := ⟨b1, o1 + k * 3 + 2, none⟩) (World.block_lt_of_cell? _ _ ha2)).trans ha2
              exact ⟨.agg #[.int .i64 xs, .string xp, .string xb], w5, by go_simp, Below.refl _ _, rfl⟩
            · refine stepOk_value rfl fun a w5 ht => ?_
              have e1 : a.tmps[1]?.getD undef = .slice (some ⟨b2, o2, none⟩) n c2 := ht.old' 1 (.slice (some ⟨b2, o2, none⟩) n c2) (by kernel_rfl) rfl
              exact ⟨.slice (some ⟨b2, o2, none⟩) n c2, w5, by go_simp, Below.refl _ _, rfl⟩
            · refine stepOk_value rfl fun a w5 ht => ?_
              have e5 : a.tmps[5]?.getD undef = .int .i64 (k : Int) := ht.old' 5 (.int .i64 (k : Int)) (by kernel_rfl) rfl
              exact ⟨.int .i64 (k : Int), w5, by go_simp, Below.refl _ _, rfl⟩
            · refine stepOk_value rfl fun a w5 ht => ?_
              have e21 : a.tmps[21]?.getD undef = .slice (some ⟨b2, o2, none⟩) n c2 := ht.dep' 4 21 (by kernel_rfl) rfl
              have e22 : a.tmps[22]?.getD undef = .int .i64 (k : Int) := ht.dep' 5 22 (by kernel_rfl) rfl
              exact ⟨.pointer (some ⟨b2, o2 + k * 3, none⟩), w5, by go_simp, Below.refl _ _, rfl⟩
            · refine stepOk_value rfl fun a w5 ht => ?_
              have e23 : a.tmps[23]?.getD undef = .pointer (some ⟨b2, o2 + k * 3, none⟩) := ht.dep' 6 23 (by kernel_rfl) rfl
              have h00 := (ht.below.cell (p := ⟨b2, o2 + k * 3, none⟩) (World.block_lt_of_cell? _ _ hb0)).trans hb0
              have h11 := (ht.below.cell (p := ⟨b2, o2 + k * 3 + 1, none⟩) (World.block_lt_of_cell? _ _ hb1)).trans hb1
              have h22 := (ht.below.cell (p := ⟨b2, o2 + k * 3 + 2, none⟩) (World.block_lt_of_cell? _ _ hb2)).trans hb2
              exact ⟨.agg #[.int .i64 ys, .string yp, .string yb], w5, by go_simp, Below.refl _ _, rfl⟩
            · refine stepOk_value rfl fun a w5 ht => ?_
              have e20 : a.tmps[20]?.getD undef = .agg #[.int .i64 xs, .string xp, .string xb] := ht.dep' 3 20 (by kernel_rfl) rfl
              have e24 : a.tmps[24]?.getD undef = .agg #[.int .i64 ys, .string yp, .string yb] := ht.dep' 7 24 (by kernel_rfl) rfl
              exact ⟨.bool true, w5, by go_simp, Below.refl _ _, rfl⟩
          case hd =>
            intro vs w8 hl hb8 hvs
            have hl : vs.length = 9 := hl
            obtain ⟨v0, r0, rfl, l0⟩ := uncons vs hl
            obtain ⟨v1, r1, rfl, l1⟩ := uncons r0 l0
            obtain ⟨v2, r2, rfl, l2⟩ := uncons r1 l1
            obtain ⟨v3, r3, rfl, l3⟩ := uncons r2 l2
            obtain ⟨v4, r4, rfl, l4⟩ := uncons r3 l3
            obtain ⟨v5, r5, rfl, l5⟩ := uncons r4 l4
            obtain ⟨v6, r6, rfl, l6⟩ := uncons r5 l5
            obtain ⟨v7, r7, rfl, l7⟩ := uncons r6 l6
            obtain ⟨v8, r8, rfl, l8⟩ := uncons r7 l7
            obtain rfl := List.eq_nil_of_length_eq_zero l8
            have h8 : v8 = .bool true := hvs 8 (by decide)
            subst h8
            clear hvs
            simp only [puts, List.map, go_sem, List.setIfInBounds_toArray, List.set_cons_succ, List.set_cons_zero]
            have HBE8 : Hid (Below w.heap.size w w8) := HBE.out.trans (hb8.mono HBE.out.size)
            clear HBE hb8 ha0 ha1 ha2 hb0 hb1 hb2 heq hgd HEQ
            go_wp2_with fail
            go_ret
            exact ⟨by rw [HNO.out]; rfl, HBE8.out⟩
      · obtain rfl : k = n := by omega
        have HYES : Hid (decide (a = b) = true) := decide_eq_true (list_ext_ent (by rw [← HN.out, ← HM.out]) fun i hi => HEQ.out i (by rw [HN.out]; exact hi))
        clear hlt
        go_wp2_with fail
        go_ret
        exact ⟨by rw [HYES.out]; rfl, HBE.out⟩
  · rw [decide_eq_false (fun h => hlen (by rw [h]))]
    have hb : ((a.length : Int) == (b.length : Int)) = false := by rw [beq_eq_false_iff_ne]; omega
    have hb2 : ((a.length : Int) != (b.length : Int)) = true := by unfold bne; rw [hb]; rfl
    generalize a.length = n at *
    generalize b.length = m at *
    go_enter Try.func38, Try.ntmps38
    go_wp2_with fail
    go_ret
    exact ⟨rfl, Below.refl _ _⟩

end Go.Proofs.Ytbajgpbekanodaa
