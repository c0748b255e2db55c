/- The walk over feed's goes: whether entries go on from nothing. -/
import Derived.Test.YtbajgpbekanodaaFeedRun
namespace Go.Proofs.Ytbajgpbekanodaa
open Go.RowKit

/-- Whether entries go on from a state. -/
def goesL (H : ByteArray → ByteArray) : Fd.State → List Fd.Ent → Bool
  | _, [] => true
  | st, x :: l => if x = st.next x.body then goesL H (st.push H x) l else false

set_option maxRecDepth 100000 in
set_option maxHeartbeats 4000000 in
theorem goes_any {H : ByteArray → ByteArray} (hS : SumLaw H) (es : List Fd.Ent) (eo : Option Addr) (cap : Nat) (w : World) (hc : EntsAt w eo es) (hok : ∀ e ∈ es, e.ok) (hl : es.length ≤ 100000) :
    Calls Try.prog 70 #[.slice eo es.length cap] w fun e w' => e = .returned (.bool (goesL H stE es)) ∧ Below w.heap.size w w' := by
  have HC := Lib.hid hc
  have HOKS := Lib.hid hok
  obtain ⟨m, hm⟩ : ∃ m, m = es.length := ⟨_, rfl⟩
  have HM := Lib.hid hm
  have hm6 : (m : Int) ≤ 100000 := by omega
  rw [← hm]
  obtain ⟨R, hR⟩ : ∃ R, R = goesL H stE es := ⟨_, rfl⟩
  have HR : Hid (goesL H stE es = R) := hR.symm
  rw [← hR]
  clear hc hok hl hm hR
  go_enter Try.func70, Try.ntmps70
  go_upto_region 2 with (refine wpList_store_row rfl 75 (.tmp 3) (.tmp 6) rfl w.heap.size #[.slice none 0 0, .string ByteArray.empty] rfl rfl _ _ (heap_alloc_new _ _) (by kernel_rfl) (by kernel_rfl) (by kernel_rfl) ?_)
  refine name_world (fun w3 => FeedIn (fun k => w.heap.size ≤ k) w.heap.size 75 stE (.slice none 0 0) w3 ∧ Below w.heap.size w w3) ?_ ?_
  · refine ⟨⟨setRow_heap _ _ _ _ _ _ (heap_alloc_new w _), World.ownsRow_nil _ _ _ _, (fun h => by cases h), Nat.le_refl _, fun k hk => by cases hk⟩, ((Below.refl w.heap.size w).alloc (Nat.le_refl _) _).trans (below_setRow _ _ _ _ (Nat.le_refl _))⟩
  rintro w3 ⟨hf3, hb3⟩
  have HF3 : Hid (∃ x, FeedIn (fun k => w.heap.size ≤ k) w.heap.size 75 stE x w3) := ⟨_, hf3⟩
  have HB3 := Lib.hid hb3
  clear hf3 hb3
  obtain ⟨q, hq⟩ : ∃ q, q = w.heap.size := ⟨_, rfl⟩
  rw [← hq] at HF3 ⊢
  have HQ := Lib.hid hq
  clear hq
  go_wp2_with fail
  go_loopw [9] (fun i wr => ∃ (j : Nat) (sk : Fd.State), (j : Int) ≤ (m : Int) ∧ i = .int .i64 (j : Int) ∧ Hid (∃ x, FeedIn (fun k => q ≤ k) q 75 sk x wr) ∧ Hid (goesL H sk (es.drop j) = R) ∧ Hid (sk.all.length = j) ∧ Hid (sk.head.size ≤ 32) ∧ Hid (Below q w wr)) (fun i _ => m - (intOf i).toNat)
  case atStart => exact ⟨0, stE, by omega, rfl, HF3, HR, rfl, by show (0 : Nat) ≤ 32; omega, HQ.out ▸ HB3⟩
  case round =>
    clear HF3 HB3 HR
    obtain ⟨j, sk, hj, rfl, HFK, HGO, HLN, HHD, HBE⟩ := hrel
    have hj0 : (0 : Int) ≤ (j : Int) := Int.natCast_nonneg _
    by_cases hlt : (j : Int) < (m : Int)
    · have hjl : j < es.length := by rw [← HM.out]; omega
      obtain ⟨b2, o2, rfl, hbl, hcell0⟩ := HC.out j hjl
      have hcell := hcell0.kept HBE.out (by rw [HQ.out]; exact hbl)
      have HDR : Hid (es.drop j = es.getD j Ent0 :: es.drop (j + 1)) := by
        show _ = _
        rw [List.drop_eq_getElem_cons hjl]
        congr 1
        simp [List.getD, hjl]
      have HOKX : Hid ((es.getD j Ent0).ok) := HOKS.out _ (by rw [show es.getD j Ent0 = es[j] by simp [List.getD, hjl]]; exact List.getElem_mem hjl)
      generalize es.getD j Ent0 = x at *
      obtain ⟨xs, xp, xb⟩ := x
      obtain ⟨y0, y1, y2⟩ := hcell
      simp only at y0 y1 y2
      clear hjl hbl hcell0
      go_upto_region 5 with (refine wpList_store_row rfl 82 (.tmp 5) (.tmp 12) rfl wr.heap.size #[.int .i64 xs, .string xp, .string xb] rfl rfl _ _ (heap_alloc_new _ _) (by kernel_rfl) (by kernel_rfl) (by kernel_rfl) ?_)
      refine name_world (fun w5 => (w5.cell? ⟨wr.heap.size, 0, none⟩ = some (.int .i64 xs) ∧ w5.cell? ⟨wr.heap.size, 1, none⟩ = some (.string xp) ∧ w5.cell? ⟨wr.heap.size, 2, none⟩ = some (.string xb)) ∧ Below wr.heap.size wr w5) ?_ ?_
      · have h1 := setRow_heap (wr.alloc (.cells #[.int .i64 0, .string ByteArray.empty, .string ByteArray.empty] 82)) wr.heap.size _ #[.int .i64 xs, .string xp, .string xb] _ _ (heap_alloc_new wr (.cells #[.int .i64 0, .string ByteArray.empty, .string ByteArray.empty] 82))
        have hb2 := ((Below.refl wr.heap.size wr).alloc (Nat.le_refl _) (.cells #[.int .i64 0, .string ByteArray.empty, .string ByteArray.empty] 82)).trans (below_setRow wr.heap.size _ wr.heap.size #[.int .i64 xs, .string xp, .string xb] (Nat.le_refl _))
        exact ⟨⟨(cell_of_row _ _ _ _ _ _ h1).trans rfl, (cell_of_row _ _ _ _ _ _ h1).trans rfl, (cell_of_row _ _ _ _ _ _ h1).trans rfl⟩, hb2⟩
      rintro w5 ⟨⟨hx0, hx1, hx2⟩, hb5⟩
      obtain ⟨xr, hfk⟩ := HFK.out
      have HFK5 := Lib.hid (hfk.turned (Turned.of_below (S := fun _ => False) hb5) (fun _ _ _ h => h))
      have HBE5 : Hid (Below q w w5) := HBE.out.trans (hb5.mono (by have := hfk.lt; omega))
      clear hb5 HFK HBE y0 y1 y2 hfk
      generalize wr.heap.size = qe at *
      obtain ⟨ak, ck, hxr, _⟩ := HFK5.out.form
      subst hxr
      have hlen6 : sk.all.length ≤ 1000000 := by have h1 := HLN.out; omega
      have HQ5 : Hid (q ≤ w5.heap.size) := Nat.le_of_lt HFK5.out.lt
      have CN := Lib.hid (fun w' (hb' : Below w5.heap.size w5 w') => next_any xb sk.head q sk.all.length ck ak 75 w' ((hb'.block q HFK5.out.lt).trans HFK5.out.at_) hlen6)
      have heq := equal_ent ⟨xs, xp, xb⟩ (sk.next xb)
      have hgd := guard_ent
      unfold Fd.State.next Fd.Ent.val at heq
      simp only at heq
      by_cases hxy : (⟨xs, xp, xb⟩ : Fd.Ent) = sk.next xb
      · have hxy2 := hxy
        unfold Fd.State.next at hxy2
        rw [decide_eq_true hxy2] at heq
        have HGO2 : Hid (goesL H (sk.push H ⟨xs, xp, xb⟩) (es.drop (j + 1)) = R) := by
          show _ = _
          rw [← HGO.out, HDR.out]
          conv => rhs; unfold goesL
          rw [if_pos hxy]
        have CP : Hid (∀ w', Below w5.heap.size w5 w' → Calls Try.prog 69 #[.pointer (some ⟨q, 0, none⟩), .agg #[.int .i64 xs, .string xp, .string xb]] w' fun r w'' => r = .returned (.tuple #[]) ∧ ∃ v', FeedIn (fun k => q ≤ k ∨ w'.heap.size ≤ k) q 75 (sk.push H ⟨xs, xp, xb⟩) v' w'' ∧ Turned (fun k => q ≤ k) w' w'') := fun w' hb' =>
          push_any hS ⟨xs, xp, xb⟩ HOKX.out (fun k => q ≤ k) q _ sk _ w' (HFK5.out.turned (Turned.of_below (S := fun _ => False) hb') (fun _ _ _ h => h)) hlen6
        have HLN2 : Hid ((sk.push H ⟨xs, xp, xb⟩).all.length = j + 1) := by
          show (sk.all ++ [_]).length = _
          rw [List.length_append, HLN.out]
          rfl
        have HHD2 : Hid ((sk.push H ⟨xs, xp, xb⟩).head.size ≤ 32) := by show (H _).size ≤ 32; rw [hS.1]; exact Nat.le_refl _
        clear hxy hxy2
        go_wp2_with fail
        refine wp_region_puts2 (R := fun qi w' v => v = [Value.agg #[.int .i64 xs, .string xp, .string xb], .pointer (some ⟨qe, 2, none⟩), .string xb, .agg #[.int .i64 ((sk.all.length : Int) + 1), .string sk.head, .string xb], .bool false].getD qi undef)
          (by kernel_rfl) (by kernel_rfl) (by kernel_rfl) ?hRR (by kernel_rfl) (steps_of ?hs) ?hd
        case hRR =>
          intro qi w1 w2 v hb hv
          exact hv
        case hs =>
          refine ⟨?_, ?_, ?_, ?_, ?_, trivial⟩
          · refine stepOk_value rfl fun a w5 ht => ?_
            have e5 : a.tmps[5]?.getD undef = .pointer (some ⟨qe, 0, none⟩) := ht.old' 5 (.pointer (some ⟨qe, 0, none⟩)) (by kernel_rfl) rfl
            have hc0 := (ht.below.cell (p := ⟨qe, 0, none⟩) (World.block_lt_of_cell? _ _ hx0)).trans hx0
            have hc1 := (ht.below.cell (p := ⟨qe, 1, none⟩) (World.block_lt_of_cell? _ _ hx1)).trans hx1
            have hc2 := (ht.below.cell (p := ⟨qe, 2, none⟩) (World.block_lt_of_cell? _ _ hx2)).trans hx2
            exact ⟨Value.agg #[.int .i64 xs, .string xp, .string xb], w5, by go_simp, Below.refl _ _, rfl⟩
          · refine stepOk_value rfl fun a w5 ht => ?_
            have e5 : a.tmps[5]?.getD undef = .pointer (some ⟨qe, 0, none⟩) := ht.old' 5 (.pointer (some ⟨qe, 0, none⟩)) (by kernel_rfl) rfl
            exact ⟨.pointer (some ⟨qe, 2, none⟩), w5, by go_simp, Below.refl _ _, rfl⟩
          · refine stepOk_value rfl fun a w5 ht => ?_
            have e14 : a.tmps[14]?.getD undef = .pointer (some ⟨qe, 2, none⟩) := ht.dep' 1 14 (by kernel_rfl) rfl
            have hc2 := (ht.below.cell (p := ⟨qe, 2, none⟩) (World.block_lt_of_cell? _ _ hx2)).trans hx2
            exact ⟨.string xb, w5, by go_simp, Below.refl _ _, rfl⟩
          · refine stepOk_call rfl fun a w5 ht => ?_
            have e3 : a.tmps[3]?.getD undef = .pointer (some ⟨q, 0, none⟩) := ht.old' 3 (.pointer (some ⟨q, 0, none⟩)) (by kernel_rfl) rfl
            have e15 : a.tmps[15]?.getD undef = .string xb := ht.dep' 2 15 (by kernel_rfl) rfl
            refine ⟨67, #[.pointer (some ⟨q, 0, none⟩), .string xb], by go_simp, (CN.out w5 ht.below).mono ?_⟩
            rintro e w' ⟨rfl, hb⟩
            exact ⟨_, rfl, hb, rfl⟩
          · refine stepOk_value rfl fun a w5 ht => ?_
            have e13 : a.tmps[13]?.getD undef = Value.agg #[.int .i64 xs, .string xp, .string xb] := ht.dep' 0 13 (by kernel_rfl) rfl
            have e16 : a.tmps[16]?.getD undef = .agg #[.int .i64 ((sk.all.length : Int) + 1), .string sk.head, .string xb] := ht.dep' 3 16 (by kernel_rfl) rfl
            exact ⟨.bool false, w5, by go_simp, Below.refl _ _, rfl⟩
        case hd =>
          intro vs w8 hl hb8 hvs
          have hl : vs.length = 5 := hl
          obtain ⟨v0, r0, rfl, l0⟩ := uncons vs hl
          obtain ⟨v1, r1, rfl, l1⟩ := uncons r0 l0
          obtain ⟨v2, r2, rfl, l2⟩ := uncons r1 l1
          obtain ⟨v3, r3, rfl, l3⟩ := uncons r2 l2
          obtain ⟨v4, r4, rfl, l4⟩ := uncons r3 l3
          obtain rfl := List.eq_nil_of_length_eq_zero l4
          have h4 : v4 = .bool false := hvs 4 (by decide)
          subst h4
          clear hvs
          simp only [puts, List.map, go_sem, List.setIfInBounds_toArray, List.set_cons_succ, List.set_cons_zero]
          have hx0 := (hb8.cell (p := ⟨qe, 0, none⟩) (World.block_lt_of_cell? _ _ hx0)).trans hx0
          have hx1 := (hb8.cell (p := ⟨qe, 1, none⟩) (World.block_lt_of_cell? _ _ hx1)).trans hx1
          have hx2 := (hb8.cell (p := ⟨qe, 2, none⟩) (World.block_lt_of_cell? _ _ hx2)).trans hx2
          go_wp2_with fail
          refine (CP.out _ hb8).mono ?_
          rintro e w9 ⟨rfl, v9, hf9, ht9⟩
          have HF9 : Hid (∃ x, FeedIn (fun k => q ≤ k) q 75 (sk.push H ⟨xs, xp, xb⟩) x w9) := ⟨v9, hf9.reS (Nat.le_refl _) fun k hk => by
            rcases hf9.mine.2 k hk with h | h
            · exact h
            · have h1 := hb8.size
              have h2 := HQ5.out
              omega⟩
          have HB9 : Hid (Below q w w9) := (HBE5.out.trans (hb8.mono HQ5.out)).trans (ht9.below (fun k hk => hk) (by have h1 := hb8.size; have h2 := HQ5.out; omega))
          clear hf9 ht9 CP CN HFK5 HBE5 hb8 hx0 hx1 hx2 heq hgd HGO HLN HHD
          go_wp2_with fail
          go_roundw
          case rel => exact ⟨j + 1, _, by omega, by go_num, HF9, HGO2, HLN2, HHD2, HB9⟩
          case measure => simp [intOf]; omega
      · have hxy2 := hxy
        unfold Fd.State.next at hxy2
        rw [decide_eq_false hxy2] at heq
        have HNO : Hid (R = false) := by
          show _ = _
          rw [← HGO.out, HDR.out]
          unfold goesL
          rw [if_neg hxy]
        clear hxy hxy2
        go_wp2_with fail
        refine wp_region_puts2 (R := fun qi w' v => v = [Value.agg #[.int .i64 xs, .string xp, .string xb], .pointer (some ⟨qe, 2, none⟩), .string xb, .agg #[.int .i64 ((sk.all.length : Int) + 1), .string sk.head, .string xb], .bool true].getD qi undef)
          (by kernel_rfl) (by kernel_rfl) (by kernel_rfl) ?hRR (by kernel_rfl) (steps_of ?hs) ?hd
        case hRR =>
          intro qi w1 w2 v hb hv
          exact hv
        case hs =>
          refine ⟨?_, ?_, ?_, ?_, ?_, trivial⟩
          · refine stepOk_value rfl fun a w5 ht => ?_
            have e5 : a.tmps[5]?.getD undef = .pointer (some ⟨qe, 0, none⟩) := ht.old' 5 (.pointer (some ⟨qe, 0, none⟩)) (by kernel_rfl) rfl
            have hc0 := (ht.below.cell (p := ⟨qe, 0, none⟩) (World.block_lt_of_cell? _ _ hx0)).trans hx0
            have hc1 := (ht.below.cell (p := ⟨qe, 1, none⟩) (World.block_lt_of_cell? _ _ hx1)).trans hx1
            have hc2 := (ht.below.cell (p := ⟨qe, 2, none⟩) (World.block_lt_of_cell? _ _ hx2)).trans hx2
            exact ⟨Value.agg #[.int .i64 xs, .string xp, .string xb], w5, by go_simp, Below.refl _ _, rfl⟩
          · refine stepOk_value rfl fun a w5 ht => ?_
            have e5 : a.tmps[5]?.getD undef = .pointer (some ⟨qe, 0, none⟩) := ht.old' 5 (.pointer (some ⟨qe, 0, none⟩)) (by kernel_rfl) rfl
            exact ⟨.pointer (some ⟨qe, 2, none⟩), w5, by go_simp, Below.refl _ _, rfl⟩
          · refine stepOk_value rfl fun a w5 ht => ?_
            have e14 : a.tmps[14]?.getD undef = .pointer (some ⟨qe, 2, none⟩) := ht.dep' 1 14 (by kernel_rfl) rfl
            have hc2 := (ht.below.cell (p := ⟨qe, 2, none⟩) (World.block_lt_of_cell? _ _ hx2)).trans hx2
            exact ⟨.string xb, w5, by go_simp, Below.refl _ _, rfl⟩
          · refine stepOk_call rfl fun a w5 ht => ?_
            have e3 : a.tmps[3]?.getD undef = .pointer (some ⟨q, 0, none⟩) := ht.old' 3 (.pointer (some ⟨q, 0, none⟩)) (by kernel_rfl) rfl
            have e15 : a.tmps[15]?.getD undef = .string xb := ht.dep' 2 15 (by kernel_rfl) rfl
            refine ⟨67, #[.pointer (some ⟨q, 0, none⟩), .string xb], by go_simp, (CN.out w5 ht.below).mono ?_⟩
            rintro e w' ⟨rfl, hb⟩
            exact ⟨_, rfl, hb, rfl⟩
          · refine stepOk_value rfl fun a w5 ht => ?_
            have e13 : a.tmps[13]?.getD undef = Value.agg #[.int .i64 xs, .string xp, .string xb] := ht.dep' 0 13 (by kernel_rfl) rfl
            have e16 : a.tmps[16]?.getD undef = .agg #[.int .i64 ((sk.all.length : Int) + 1), .string sk.head, .string xb] := ht.dep' 3 16 (by kernel_rfl) rfl
            exact ⟨.bool true, w5, by go_simp, Below.refl _ _, rfl⟩
        case hd =>
          intro vs w8 hl hb8 hvs
          have hl : vs.length = 5 := hl
          obtain ⟨v0, r0, rfl, l0⟩ := uncons vs hl
          obtain ⟨v1, r1, rfl, l1⟩ := uncons r0 l0
          obtain ⟨v2, r2, rfl, l2⟩ := uncons r1 l1
          obtain ⟨v3, r3, rfl, l3⟩ := uncons r2 l2
          obtain ⟨v4, r4, rfl, l4⟩ := uncons r3 l3
          obtain rfl := List.eq_nil_of_length_eq_zero l4
          have h4 : v4 = .bool true := hvs 4 (by decide)
          subst h4
          clear hvs
          simp only [puts, List.map, go_sem, List.setIfInBounds_toArray, List.set_cons_succ, List.set_cons_zero]
          have HB8' : Hid (Below q w w8) := HBE5.out.trans (hb8.mono HQ5.out)
          clear hx0 hx1 hx2 heq hgd CN hb8
          go_wp2_with fail
          go_ret
          rw [HNO.out]
          exact ⟨rfl, HQ.out ▸ HB8'.out⟩
    · obtain rfl : j = m := by omega
      have HYES : Hid (R = true) := by
        show _ = _
        rw [← HGO.out, List.drop_of_length_le (by rw [← HM.out]; exact Nat.le_refl _)]
        rfl
      clear hlt
      go_wp2_with fail
      go_ret
      rw [HYES.out]
      exact ⟨rfl, HQ.out ▸ HBE.out⟩
end Go.Proofs.Ytbajgpbekanodaa
namespace Go.Proofs.Ytbajgpbekanodaa
open Go.RowKit

/-- What Few weighs. -/
def fewN (es : List Fd.Ent) : Nat := (es.map fun e => min e.body.size 20000 + min e.prev.size 20000 + 100).sum
def fewB (es : List Fd.Ent) : Bool := decide (fewN es ≤ 30000)
theorem fewN_append (a b : List Fd.Ent) : fewN (a ++ b) = fewN a + fewN b := by unfold fewN; rw [List.map_append, List.sum_append]
theorem fewN_take (l : List Fd.Ent) (k : Nat) (h : k < l.length) : fewN (l.take (k + 1)) = fewN (l.take k) + (min (l.getD k Ent0).body.size 20000 + min (l.getD k Ent0).prev.size 20000 + 100) := by
  rw [List.take_succ_eq_append_getElem h, fewN_append, show l.getD k Ent0 = l[k] by simp [List.getD, h]]
  simp [fewN]
theorem fewN_le (l : List Fd.Ent) (k : Nat) : fewN (l.take k) ≤ fewN l := by
  have := fewN_append (l.take k) (l.drop k)
  rw [List.take_append_drop] at this
  omega
theorem fewN_len (l : List Fd.Ent) : 100 * l.length ≤ fewN l := by
  induction l with
  | nil => simp [fewN]
  | cons x l ih =>
    have : fewN (x :: l) = (min x.body.size 20000 + min x.prev.size 20000 + 100) + fewN l := by simp [fewN]
    rw [this, List.length_cons]
    omega
theorem fewN_mem {l : List Fd.Ent} {e : Fd.Ent} (h : e ∈ l) : min e.body.size 20000 + min e.prev.size 20000 + 100 ≤ fewN l := by
  induction l with
  | nil => cases h
  | cons x l ih =>
    have hx : fewN (x :: l) = (min x.body.size 20000 + min x.prev.size 20000 + 100) + fewN l := by simp [fewN]
    rw [hx]
    rcases List.mem_cons.1 h with rfl | h
    · omega
    · have := ih h
      omega
/-- A bound of each text: an argument's. -/
def EntsMost (es : List Fd.Ent) : Prop := ∀ e ∈ es, -9223372036854775808 ≤ e.seq ∧ e.seq ≤ 9223372036854775807 ∧ e.prev.size ≤ 140737488351232 ∧ e.body.size ≤ 140737488351232
theorem few_ok {l : List Fd.Ent} (h : fewB l = true) (hm : EntsMost l) : ∀ e ∈ l, e.ok := fun e he => by
  have h1 := fewN_mem he
  have h2 := of_decide_eq_true h
  obtain ⟨a, b, c, d⟩ := hm e he
  exact ⟨a, b, by omega, by omega, by omega⟩
theorem few_len {l : List Fd.Ent} (h : fewB l = true) : l.length ≤ 300 := by
  have h1 := fewN_len l
  have h2 := of_decide_eq_true h
  omega

set_option maxRecDepth 100000 in
set_option maxHeartbeats 4000000 in
theorem few_any (es : List Fd.Ent) (eo : Option Addr) (cap : Nat) (w : World) (hc : EntsAt w eo es) (hl : (es.length : Int) ≤ 9223372036854775807) (hm : EntsMost es) :
    Calls Try.prog 33 #[.slice eo es.length cap] w fun e w' => e = .returned (.bool (fewB es)) ∧ Below w.heap.size w w' := by
  have HC := Lib.hid hc
  have HMO := Lib.hid hm
  obtain ⟨n, hn⟩ : ∃ n, n = es.length := ⟨_, rfl⟩
  have HN := Lib.hid hn
  rw [← hn] at hl ⊢
  clear hc hm hn
  go_enter Try.func33, Try.ntmps33
  go_wp2_with fail
  go_loopw [3, 4] (fun t i wr => ∃ k T : Nat, (k : Int) ≤ (n : Int) ∧ t = .int .i64 (T : Int) ∧ i = .int .i64 (k : Int) ∧ (T : Int) ≤ 30000 ∧ Hid (T = fewN (es.take k)) ∧ Hid (Below w.heap.size w wr)) (fun _ i _ => n - (intOf i).toNat)
  case atStart => exact ⟨0, 0, by omega, rfl, rfl, by omega, rfl, Below.refl _ _⟩
  case round =>
    obtain ⟨k, T, hk, rfl, rfl, hT, HT, HBE⟩ := hrel
    have hk0 : (0 : Int) ≤ (k : Int) := Int.natCast_nonneg _
    have hT0 : (0 : Int) ≤ (T : Int) := Int.natCast_nonneg _
    by_cases hlt : (k : Int) < (n : Int)
    · have hkl : k < es.length := by have := HN.out; omega
      obtain ⟨b, off, rfl, hb, hcell0⟩ := HC.out k hkl
      obtain ⟨y0, y1, y2⟩ := hcell0.kept HBE.out hb
      have HJ := Lib.hid (fewN_take es k hkl)
      have HX := HMO.out (es.getD k Ent0) (by rw [show es.getD k Ent0 = es[k] by simp [List.getD, hkl]]; exact List.getElem_mem hkl)
      generalize es.getD k Ent0 = x at *
      obtain ⟨xs, xp, xb⟩ := x
      simp only at y0 y1 y2
      have hp := HX.2.2.1
      have hbd := HX.2.2.2
      clear HX
      simp only at hp hbd
      have hp2 : (xp.size : Int) ≤ 140737488351232 := by omega
      have hb2 : (xb.size : Int) ≤ 140737488351232 := by omega
      obtain ⟨A, hA⟩ : ∃ A : Nat, min (xb.size : Int) 20000 = (A : Int) := ⟨min xb.size 20000, by omega⟩
      obtain ⟨B, hB⟩ : ∃ B : Nat, min (xp.size : Int) 20000 = (B : Int) := ⟨min xp.size 20000, by omega⟩
      have hA2 : (A : Int) ≤ 20000 := by omega
      have hB2 : (B : Int) ≤ 20000 := by omega
      have HAB : Hid (fewN (es.take (k + 1)) = T + (A + B + 100)) := by
        show _ = _
        have h1 := HT.out
        have h2 := HJ.out
        simp only at h2
        omega
      clear hkl hp hbd hcell0 hb
      go_upto_region 5 with fail
      go_region
      clear hA hB hA2 hB2 hT y0 y1 y2 HJ hp2 hb2
      have HBE2 : Hid (Below w.heap.size w wr.drew) := ⟨HBE.out.os, HBE.out.tape, HBE.out.output, HBE.out.size, HBE.out.block⟩
      generalize wr.drew = wd at *
      obtain ⟨T2, hT2⟩ : ∃ T2 : Nat, (T : Int) + ((A : Int) + (B : Int) + 100) = (T2 : Int) := ⟨T + (A + B + 100), by omega⟩
      have HT2 : Hid (fewN (es.take (k + 1)) = T2) := by show _ = _; rw [HAB.out]; omega
      rw [hT2]
      clear hT2
      by_cases h30 : (30000 : Int) < (T2 : Int)
      · skip
        go_wp2_with fail
        go_ret
        have h1 := HT2.out
        have h2 := fewN_le es (k + 1)
        refine ⟨?_, HBE2.out⟩
        rw [show fewB es = false from decide_eq_false (by omega)]
        rfl
      · go_wp2_with fail
        go_roundw
        case rel => exact ⟨k + 1, T2, by omega, rfl, by go_num, by omega, HT2.out.symm, HBE2⟩
        case measure => simp [intOf]; omega
    · obtain rfl : k = n := by omega
      have HW : Hid (fewB es = true) := by
        have h1 := HT.out
        rw [HN.out, List.take_length] at h1
        exact decide_eq_true (by omega)
      clear hlt
      go_wp2_with fail
      go_ret
      rw [HW.out]
      exact ⟨rfl, HBE.out⟩
end Go.Proofs.Ytbajgpbekanodaa
namespace Go.Proofs.Ytbajgpbekanodaa
open Go.RowKit

/-- The first entries that differ. -/
def firstDiff : List Fd.Ent → List Fd.Ent → Option (Fd.Ent × Fd.Ent)
  | x :: r, y :: s => if x = y then firstDiff r s else some (x, y)
  | _, _ => none
def lastE (l : List Fd.Ent) : Fd.Ent := l.getD (l.length - 1) Ent0
/-- What Clash tells. -/
def clashR (H : ByteArray → ByteArray) (a b : List Fd.Ent) : ByteArray × ByteArray × Bool :=
  if a ≠ [] ∧ b ≠ [] ∧ goesL H stE a = true ∧ goesL H stE b = true ∧ H (lastE a).text = H (lastE b).text then
    match firstDiff a.reverse b.reverse with
    | some (x, y) => (x.text, y.text, true)
    | none => (ByteArray.empty, ByteArray.empty, false)
  else (ByteArray.empty, ByteArray.empty, false)
theorem rev_drop (a : List Fd.Ent) (k : Nat) (h : k < a.length) : a.reverse.drop k = a.getD (a.length - 1 - k) Ent0 :: a.reverse.drop (k + 1) := by
  rw [List.drop_eq_getElem_cons (by rw [List.length_reverse]; exact h)]
  congr 1
  rw [List.getElem_reverse]
  have : a.length - 1 - k < a.length := by omega
  simp [List.getD, this]
theorem firstDiff_out (a b : List Fd.Ent) (k : Nat) (h : a.length ≤ k ∨ b.length ≤ k) : firstDiff (a.reverse.drop k) (b.reverse.drop k) = none := by
  rcases h with h | h
  · rw [List.drop_of_length_le (by rw [List.length_reverse]; exact h)]
    unfold firstDiff; rfl
  · rw [List.drop_of_length_le (l := b.reverse) (by rw [List.length_reverse]; exact h)]
    unfold firstDiff
    cases a.reverse.drop k <;> rfl
theorem firstDiff_step (a b : List Fd.Ent) (k : Nat) (ha : k < a.length) (hb : k < b.length) : firstDiff (a.reverse.drop k) (b.reverse.drop k) =
    if a.getD (a.length - 1 - k) Ent0 = b.getD (b.length - 1 - k) Ent0 then firstDiff (a.reverse.drop (k + 1)) (b.reverse.drop (k + 1)) else some (a.getD (a.length - 1 - k) Ent0, b.getD (b.length - 1 - k) Ent0) := by
  rw [rev_drop a k ha, rev_drop b k hb]
  rfl
theorem clashR_no {H : ByteArray → ByteArray} {a b : List Fd.Ent} (h : ¬ (a ≠ [] ∧ b ≠ [] ∧ goesL H stE a = true ∧ goesL H stE b = true ∧ H (lastE a).text = H (lastE b).text)) : clashR H a b = (ByteArray.empty, ByteArray.empty, false) := by
  unfold clashR; rw [if_neg h]
theorem clashR_yes {H : ByteArray → ByteArray} {a b : List Fd.Ent} (h : a ≠ [] ∧ b ≠ [] ∧ goesL H stE a = true ∧ goesL H stE b = true ∧ H (lastE a).text = H (lastE b).text) {x y : Fd.Ent} (hd : firstDiff a.reverse b.reverse = some (x, y)) : clashR H a b = (x.text, y.text, true) := by
  unfold clashR; rw [if_pos h, hd]
theorem clashR_none {H : ByteArray → ByteArray} {a b : List Fd.Ent} (hd : firstDiff a.reverse b.reverse = none) : clashR H a b = (ByteArray.empty, ByteArray.empty, false) := by
  unfold clashR; rw [hd]; split <;> rfl
end Go.Proofs.Ytbajgpbekanodaa
