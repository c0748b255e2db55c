/- The walks over the function that Feed.Take looks with, and slices.IndexFunc over entries. -/
import Derived.Test.YtbajgpbekanodaaFeedSince
namespace Go.Proofs.Ytbajgpbekanodaa
open Go.RowKit

set_option maxRecDepth 100000 in
set_option maxHeartbeats 2000000 in
theorem takeF_any (sq : Int) (pv bd h : ByteArray) (p fb n cp : Nat) (ao : Option Addr) (t : TypeId) (r : Bool) (w : World) (hr : decide ((n : Int) < sq) = r) (hp : w.heap[p]? = some (.cells #[.slice ao n cp, .string h] t (0, 0))) (hfb : w.cell? ⟨fb, 0, none⟩ = some (.pointer (some ⟨p, 0, none⟩))) :
    Calls Try.prog 65 #[.agg #[.int .i64 sq, .string pv, .string bd], .pointer (some ⟨fb, 0, none⟩)] w fun e w' => e = .returned (.bool r) ∧ Below w.heap.size w w' := by
  have hpl : p < w.heap.size := (Array.getElem?_eq_some_iff.1 hp).1
  go_enter Try.func65, Try.ntmps65
  go_upto_region 1 with fail
  refine name_world (fun w3 => w3.cell? ⟨w.heap.size, 0, none⟩ = some (.int .i64 sq) ∧ w3.cell? ⟨fb, 0, none⟩ = some (.pointer (some ⟨p, 0, none⟩)) ∧ w3.cell? ⟨p, 0, none⟩ = some (.slice ao n cp) ∧ Below w.heap.size w w3) ⟨?_, ?_, ?_, (Below.refl _ w).alloc (Nat.le_refl _) _⟩ ?_
  · exact cells_new w [.int .i64 sq, .string pv, .string bd] _ 0 _ rfl
  · exact (((Below.refl w.heap.size w).alloc (Nat.le_refl _) _).cell (p := ⟨fb, 0, none⟩) (World.block_lt_of_cell? _ _ hfb)).trans hfb
  · refine (((Below.refl w.heap.size w).alloc (Nat.le_refl _) _).cell (p := ⟨p, 0, none⟩) hpl).trans ?_
    simp [World.cell?, hp]
  rintro w3 ⟨hx0, hf0, hc0, hb3⟩
  have HB3 := Lib.hid hb3
  clear hp hfb hb3
  refine wp_region_puts2 (R := fun qi w' v => v = [Value.pointer (some ⟨w.heap.size, 0, none⟩), .int .i64 sq, .pointer (some ⟨p, 0, none⟩), .pointer (some ⟨p, 0, none⟩), .pointer (some ⟨p, 0, none⟩), .pointer (some ⟨p, 0, none⟩), .slice ao n cp, .int .i64 (n : Int), .bool r, .bool r].getD qi undef)
    (by kernel_rfl) (by kernel_rfl) (by kernel_rfl) ?hRR (by kernel_rfl) (steps_of ?hs) ?hd
  case hRR =>
    intro qi w1 w2 v hb hv
    exact hv
  case hs =>
    refine ⟨?_, ?_, ?_, ?_, ?_, ?_, ?_, ?_, ?_, ?_, trivial⟩
    · refine stepOk_value rfl fun a w5 ht => ?_
      have e2 : a.tmps[2]?.getD undef = .pointer (some ⟨w.heap.size, 0, none⟩) := ht.old' 2 (.pointer (some ⟨w.heap.size, 0, none⟩)) (by kernel_rfl) rfl
      exact ⟨Value.pointer (some ⟨w.heap.size, 0, none⟩), w5, by go_simp, Below.refl _ _, rfl⟩
    · refine stepOk_value rfl fun a w5 ht => ?_
      have e4 : a.tmps[4]?.getD undef = Value.pointer (some ⟨w.heap.size, 0, none⟩) := ht.dep' 0 4 (by kernel_rfl) rfl
      have hc := (ht.below.cell (p := ⟨w.heap.size, 0, none⟩) (World.block_lt_of_cell? _ _ hx0)).trans hx0
      exact ⟨.int .i64 sq, w5, by go_simp, Below.refl _ _, rfl⟩
    · refine stepOk_value rfl fun a w5 ht => ?_
      have e1 : a.tmps[1]?.getD undef = .pointer (some ⟨fb, 0, none⟩) := ht.old' 1 (.pointer (some ⟨fb, 0, none⟩)) (by kernel_rfl) rfl
      have hc := (ht.below.cell (p := ⟨fb, 0, none⟩) (World.block_lt_of_cell? _ _ hf0)).trans hf0
      exact ⟨.pointer (some ⟨p, 0, none⟩), w5, by go_simp, Below.refl _ _, rfl⟩
    · refine stepOk_value rfl fun a w5 ht => ?_
      have e6 : a.tmps[6]?.getD undef = .pointer (some ⟨p, 0, none⟩) := ht.dep' 2 6 (by kernel_rfl) rfl
      exact ⟨.pointer (some ⟨p, 0, none⟩), w5, by go_simp, Below.refl _ _, rfl⟩
    · refine stepOk_value rfl fun a w5 ht => ?_
      have e7 : a.tmps[7]?.getD undef = .pointer (some ⟨p, 0, none⟩) := ht.dep' 3 7 (by kernel_rfl) rfl
      exact ⟨.pointer (some ⟨p, 0, none⟩), w5, by go_simp, Below.refl _ _, rfl⟩
    · refine stepOk_value rfl fun a w5 ht => ?_
      have e8 : a.tmps[8]?.getD undef = .pointer (some ⟨p, 0, none⟩) := ht.dep' 4 8 (by kernel_rfl) rfl
      exact ⟨.pointer (some ⟨p, 0, none⟩), w5, by go_simp, Below.refl _ _, rfl⟩
    · refine stepOk_value rfl fun a w5 ht => ?_
      have e9 : a.tmps[9]?.getD undef = .pointer (some ⟨p, 0, none⟩) := ht.dep' 5 9 (by kernel_rfl) rfl
      have hc := (ht.below.cell (p := ⟨p, 0, none⟩) (World.block_lt_of_cell? _ _ hc0)).trans hc0
      exact ⟨.slice ao n cp, w5, by go_simp, Below.refl _ _, rfl⟩
    · refine stepOk_value rfl fun a w5 ht => ?_
      have e10 : a.tmps[10]?.getD undef = .slice ao n cp := ht.dep' 6 10 (by kernel_rfl) rfl
      exact ⟨.int .i64 (n : Int), w5, by go_simp, Below.refl _ _, rfl⟩
    · refine stepOk_value rfl fun a w5 ht => ?_
      have e5 : a.tmps[5]?.getD undef = .int .i64 sq := ht.dep' 1 5 (by kernel_rfl) rfl
      have e11 : a.tmps[11]?.getD undef = .int .i64 (n : Int) := ht.dep' 7 11 (by kernel_rfl) rfl
      exact ⟨.bool r, w5, by go_simp, Below.refl _ _, rfl⟩
    · refine stepOk_value rfl fun a w5 ht => ?_
      have e12 : a.tmps[12]?.getD undef = .bool r := ht.dep' 8 12 (by kernel_rfl) rfl
      exact ⟨.bool r, w5, by go_simp, Below.refl _ _, rfl⟩
  case hd =>
    intro vs w8 hl hb8 hvs
    have hl : vs.length = 10 := hl
    obtain ⟨v0, r0, rfl, l0⟩ := uncons vs hl
    obtain ⟨v1, r1, rfl, l1⟩ := uncons r0 l0
    obtain ⟨v2, r2, rfl, l2⟩ := uncons r1 l1
    obtain ⟨v3, r3, rfl, l3⟩ := uncons r2 l2
    obtain ⟨v4, r4, rfl, l4⟩ := uncons r3 l3
    obtain ⟨v5, r5, rfl, l5⟩ := uncons r4 l4
    obtain ⟨v6, r6, rfl, l6⟩ := uncons r5 l5
    obtain ⟨v7, r7, rfl, l7⟩ := uncons r6 l6
    obtain ⟨v8, r8, rfl, l8⟩ := uncons r7 l7
    obtain ⟨v9, r9, rfl, l9⟩ := uncons r8 l8
    obtain rfl := List.eq_nil_of_length_eq_zero l9
    have h9 : v9 = .bool r := hvs 9 (by decide)
    subst h9
    clear hvs
    simp only [puts, List.map, go_sem, List.setIfInBounds_toArray, List.set_cons_succ, List.set_cons_zero]
    go_wp2_with fail
    go_ret
    exact ⟨rfl, HB3.out.trans (hb8.mono HB3.out.size)⟩

/-- The entries that a feed has not. -/
def restOf (n : Nat) (es : List Fd.Ent) : Nat := (es.takeWhile fun e => decide (e.seq ≤ (n : Int))).length
def IdxE (n : Nat) (es : List Fd.Ent) (e : Ending) : Prop := e = .returned (.int .i64 (if restOf n es < es.length then (restOf n es : Int) else -1))
theorem rest_at {n : Nat} {es : List Fd.Ent} {k : Nat} (hk : k < es.length) (hlow : ∀ j, j < k → (es.getD j Ent0).seq ≤ (n : Int)) (hgt : (n : Int) < (es.getD k Ent0).seq) : restOf n es = k := by
  unfold restOf
  induction es generalizing k with
  | nil => simp at hk
  | cons e es ih =>
    cases k with
    | zero =>
      have h1 : (n : Int) < e.seq := by simpa using hgt
      rw [List.takeWhile_cons, if_neg (by simp; omega)]
      rfl
    | succ k =>
      have h0 : e.seq ≤ (n : Int) := by simpa using hlow 0 (by omega)
      rw [List.takeWhile_cons, if_pos (by simpa using h0), List.length_cons, ih (by simpa using hk) (fun j hj => by simpa using hlow (j + 1) (by omega)) (by simpa using hgt)]
theorem rest_all {n : Nat} {es : List Fd.Ent} (hlow : ∀ j, j < es.length → (es.getD j Ent0).seq ≤ (n : Int)) : restOf n es = es.length := by
  unfold restOf
  induction es with
  | nil => rfl
  | cons e es ih =>
    have h0 : e.seq ≤ (n : Int) := by simpa using hlow 0 (by simp)
    rw [List.takeWhile_cons, if_pos (by simpa using h0), List.length_cons, ih (fun j hj => by simpa using hlow (j + 1) (by simpa using hj))]
    rfl
set_option maxRecDepth 100000 in
set_option maxHeartbeats 2000000 in
theorem indexEnt_any (es : List Fd.Ent) (eo : Option Addr) (cap : Nat) (h : ByteArray) (p fb n cp : Nat) (ao : Option Addr) (t : TypeId) (w : World) (hl : (es.length : Int) ≤ 9223372036854775807) (hc : EntsAt w eo es) (hp : w.heap[p]? = some (.cells #[.slice ao n cp, .string h] t (0, 0))) (hfb : w.cell? ⟨fb, 0, none⟩ = some (.pointer (some ⟨p, 0, none⟩))) :
    Calls Try.prog 64 #[.slice eo es.length cap, .func (.func 65) #[] #[.pointer (some ⟨fb, 0, none⟩)]] w fun e w' => IdxE n es e ∧ Below w.heap.size w w' := by
  obtain ⟨m, hm⟩ : ∃ m, m = es.length := ⟨_, rfl⟩
  have HN := Lib.hid hm
  have HC := Lib.hid hc
  have CT : Hid (∀ sq pv bd r w', decide ((n : Int) < sq) = r → Below w.heap.size w w' → Calls Try.prog 65 #[.agg #[.int .i64 sq, .string pv, .string bd], .pointer (some ⟨fb, 0, none⟩)] w' fun e w'' => e = .returned (.bool r) ∧ Below w'.heap.size w' w'') :=
    fun sq pv bd r w' hr hb => takeF_any sq pv bd h p fb n cp ao t r w' hr ((hb.block p (Array.getElem?_eq_some_iff.1 hp).1).trans hp) ((hb.cell (World.block_lt_of_cell? _ _ hfb)).trans hfb)
  rw [← hm] at hl ⊢
  clear hm hc hp hfb
  go_enter Try.func64, Try.ntmps64
  go_wp2_with fail
  go_loopw [5, 8] (fun _ i wr => ∃ k : Nat, (k : Int) ≤ (m : Int) ∧ i = .int .i64 (k : Int) ∧ Hid (∀ j, j < k → (es.getD j Ent0).seq ≤ (n : Int)) ∧ Hid (Below w.heap.size w wr)) (fun _ i _ => m - (intOf i).toNat)
  case atStart => exact ⟨0, by omega, rfl, fun j hj => absurd hj (Nat.not_lt_zero _), Below.refl _ _⟩
  case round =>
    obtain ⟨k, hk, rfl, HLO, HBE⟩ := hrel
    have hk0 : (0 : Int) ≤ (k : Int) := Int.natCast_nonneg _
    by_cases hlt : (k : Int) < (m : Int)
    · have hkl : k < es.length := by rw [← HN.out]; omega
      obtain ⟨b, off, rfl, hbl, hcell0⟩ := HC.out k hkl
      have hcell := hcell0.kept HBE.out hbl
      cases hb : decide ((n : Int) < (es.getD k Ent0).seq) with
      | true =>
        have HY : Hid (restOf n es = k ∧ k < es.length) := ⟨rest_at hkl HLO.out (of_decide_eq_true hb), hkl⟩
        clear hkl hcell0 HLO
        generalize es.getD k Ent0 = x at *
        obtain ⟨xs, xp, xb⟩ := x
        have CX := Lib.hid (fun w' hb' => CT.out xs xp xb true w' hb hb')
        obtain ⟨hx0, hx1, hx2⟩ := hcell
        simp only at hx0 hx1 hx2
        clear CT hb
        go_wp2_with fail
        refine (CX.out _ HBE.out).mono ?_
        rintro e w1 ⟨rfl, hb1⟩
        have HB1 := Lib.hid (HBE.out.trans (hb1.mono HBE.out.size))
        clear hb1 HBE
        go_wp2_with fail
        go_ret
        refine ⟨?_, HB1.out⟩
        unfold IdxE
        rw [HY.out.1, if_pos HY.out.2]
        rfl
      | false =>
        have HLO2 : Hid (∀ j, j < k + 1 → (es.getD j Ent0).seq ≤ (n : Int)) := fun j hj => by
          by_cases h : j < k
          · exact HLO.out j h
          · obtain rfl : j = k := by omega
            have := of_decide_eq_false hb
            omega
        clear hkl hcell0 HLO
        generalize es.getD k Ent0 = x at *
        obtain ⟨xs, xp, xb⟩ := x
        have CX := Lib.hid (fun w' hb' => CT.out xs xp xb false w' hb hb')
        obtain ⟨hx0, hx1, hx2⟩ := hcell
        simp only at hx0 hx1 hx2
        clear CT hb
        go_wp2_with fail
        refine (CX.out _ HBE.out).mono ?_
        rintro e w1 ⟨rfl, hb1⟩
        have HB1 := Lib.hid (HBE.out.trans (hb1.mono HBE.out.size))
        clear hb1 HBE CX hx0 hx1 hx2
        go_wp2_with fail
        go_roundw
        case rel => exact ⟨k + 1, by omega, by go_num, HLO2, HB1⟩
        case measure => simp [intOf]; omega
    · obtain rfl : k = m := by omega
      have HNO : Hid (restOf n es = es.length) := rest_all (fun j hj => HLO.out j (by rw [HN.out]; exact hj))
      clear hlt
      go_wp2_with fail
      go_ret
      refine ⟨?_, HBE.out⟩
      unfold IdxE
      rw [HNO.out, if_neg (Nat.lt_irrefl _)]
      rfl
end Go.Proofs.Ytbajgpbekanodaa
