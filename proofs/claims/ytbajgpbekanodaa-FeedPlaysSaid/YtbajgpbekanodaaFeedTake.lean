/- The walk over Feed.Take. -/
import Derived.Test.YtbajgpbekanodaaFeedIndex
namespace Go.Proofs.Ytbajgpbekanodaa
open Go.RowKit

/-- What goes on from a state. -/
def goOn (H : ByteArray → ByteArray) : Fd.State → List Fd.Ent → Option Fd.State
  | st, [] => some st
  | st, e :: r => if e = st.next e.body ∧ isBig e.body = false then goOn H (st.push H e) r else none
/-- What Take does. -/
def takeR (H : ByteArray → ByteArray) (st : Fd.State) (head : ByteArray) (es : List Fd.Ent) : Fd.State × Int :=
  if es.length ≤ restOf st.all.length es then (st, if head = st.head then 0 else 390)
  else match goOn H st (es.drop (restOf st.all.length es)) with
    | some st' => if st'.head = head then (st', 0) else (st, 390)
    | none => (st, 390)
def TakeOut (S : Nat → Prop) (p : Nat) (t : TypeId) (w : World) (r : Fd.State × Int) (e : Ending) (w' : World) : Prop :=
  e = .returned (.int .i64 r.2) ∧ ∃ v', FeedIn (fun k => S k ∨ w.heap.size ≤ k) p t r.1 v' w' ∧ Turned (fun k => k = p) w w'
theorem takeOut_same {S : Nat → Prop} {p : Nat} {t : TypeId} {st : Fd.State} {v : Value} {w w' : World} (r : Int) (hf : FeedIn S p t st v w) (hb : Below w.heap.size w w') : TakeOut S p t w (st, r) (.returned (.int .i64 r)) w' := by
  have h := hf.turned (Turned.of_below (S := fun _ => False) hb) (fun _ _ _ h => h)
  exact ⟨rfl, v, ⟨h.at_, h.own, h.ne, Or.inl h.mine.1, fun k hk => Or.inl (h.mine.2 k hk)⟩, Turned.of_below hb⟩

set_option maxRecDepth 100000 in
set_option maxHeartbeats 2000000 in
theorem take_none (S : Nat → Prop) (p : Nat) (st : Fd.State) (v : Value) (head : ByteArray) (es : List Fd.Ent) (eo : Option Addr) (cap : Nat) (w : World) (hf : FeedIn S p 77 st v w) (hl : (es.length : Int) ≤ 1000000) (hc : EntsAt w eo es) (hr : es.length ≤ restOf st.all.length es) :
    Calls Try.prog 36 #[.pointer (some ⟨p, 0, none⟩), .string head, .slice eo es.length cap] w (TakeOut S p 77 w (st, if head = st.head then 0 else 390)) := by
  obtain ⟨ao, cp, rfl, _, _⟩ := hf.form
  have hc1 : w.cell? ⟨p, 1, none⟩ = some (.string st.head) := by simp [World.cell?, hf.at_]
  have HF := Lib.hid hf
  have CI : Hid (∀ w', Below w.heap.size w w' → w'.cell? ⟨w.heap.size, 0, none⟩ = some (.pointer (some ⟨p, 0, none⟩)) → Calls Try.prog 64 #[.slice eo es.length cap, .func (.func 65) #[] #[.pointer (some ⟨w.heap.size, 0, none⟩)]] w' fun e w'' => e = .returned (.int .i64 (-1)) ∧ Below w'.heap.size w' w'') := fun w' hb' hfb => by
    refine (indexEnt_any es eo cap st.head p w.heap.size st.all.length cp ao 77 w' (by omega) (hc.kept hb' (Nat.le_refl _)) ((hb'.block p HF.out.lt).trans HF.out.at_) hfb).mono fun e w'' h => ⟨?_, h.2⟩
    have h1 := h.1
    unfold IdxE at h1
    rw [if_neg (by omega)] at h1
    exact h1
  have hpl := hf.lt
  clear hc hr hf
  generalize es.length = m at *
  by_cases hh : head = st.head
  · rw [if_pos hh]
    have hbq : (head.toList == st.head.toList) = true := by rw [bytes_beq]; exact decide_eq_true hh
    clear hh
    go_enter Try.func36, Try.ntmps36
    go_upto_region 1 with fail
    refine name_world (fun w3 => w3.cell? ⟨w.heap.size, 0, none⟩ = some (.pointer (some ⟨p, 0, none⟩)) ∧ w3.cell? ⟨p, 1, none⟩ = some (.string st.head) ∧ Below w.heap.size w w3) ⟨cells_new w [.pointer (some ⟨p, 0, none⟩)] _ 0 _ rfl, (((Below.refl w.heap.size w).alloc (Nat.le_refl _) _).cell (p := ⟨p, 1, none⟩) hpl).trans hc1, (Below.refl _ w).alloc (Nat.le_refl _) _⟩ ?_
    rintro w3 ⟨hf0, hc1, hb3⟩
    have HB3 := Lib.hid hb3
    clear hb3
    go_wp2_with fail
    refine (CI.out _ HB3.out hf0).mono ?_
    rintro e w4 ⟨rfl, hb4⟩
    have HB4 := Lib.hid (HB3.out.trans (hb4.mono HB3.out.size))
    have hf0 := (hb4.cell (World.block_lt_of_cell? _ _ hf0)).trans hf0
    have hc1 := (hb4.cell (World.block_lt_of_cell? _ _ hc1)).trans hc1
    clear hb4 HB3 CI
    go_wp2_with fail
    go_ret
    exact takeOut_same 0 HF.out HB4.out
  · rw [if_neg hh]
    have hbq : (head.toList == st.head.toList) = false := by rw [bytes_beq]; exact decide_eq_false hh
    clear hh
    go_enter Try.func36, Try.ntmps36
    go_upto_region 1 with fail
    refine name_world (fun w3 => w3.cell? ⟨w.heap.size, 0, none⟩ = some (.pointer (some ⟨p, 0, none⟩)) ∧ w3.cell? ⟨p, 1, none⟩ = some (.string st.head) ∧ Below w.heap.size w w3) ⟨cells_new w [.pointer (some ⟨p, 0, none⟩)] _ 0 _ rfl, (((Below.refl w.heap.size w).alloc (Nat.le_refl _) _).cell (p := ⟨p, 1, none⟩) hpl).trans hc1, (Below.refl _ w).alloc (Nat.le_refl _) _⟩ ?_
    rintro w3 ⟨hf0, hc1, hb3⟩
    have HB3 := Lib.hid hb3
    clear hb3
    go_wp2_with fail
    refine (CI.out _ HB3.out hf0).mono ?_
    rintro e w4 ⟨rfl, hb4⟩
    have HB4 := Lib.hid (HB3.out.trans (hb4.mono HB3.out.size))
    have hf0 := (hb4.cell (World.block_lt_of_cell? _ _ hf0)).trans hf0
    have hc1 := (hb4.cell (World.block_lt_of_cell? _ _ hc1)).trans hc1
    clear hb4 HB3 CI
    go_wp2_with fail
    go_ret
    exact takeOut_same 390 HF.out HB4.out

set_option maxRecDepth 100000 in
set_option maxHeartbeats 8000000 in
theorem take_rest {H : ByteArray → ByteArray} (hS : SumLaw H) (S : Nat → Prop) (p : Nat) (st : Fd.State) (v : Value) (head : ByteArray) (es : List Fd.Ent) (eo : Option Addr) (cap k : Nat) (w : World) (hf : FeedIn S p 77 st v w) (hfit : es.length ≤ cap ∧ cap ≤ maxLen) (hc : EntsAt w eo es) (hk : restOf st.all.length es = k) (hkl : (k : Int) < (es.length : Int))
    (hl : st.all.length + es.length ≤ 1000000) (hh : st.head.size ≤ 32) :
    Calls Try.prog 36 #[.pointer (some ⟨p, 0, none⟩), .string head, .slice eo es.length cap] w (TakeOut S p 77 w (takeR H st head es)) := by
  obtain ⟨ao, cp, rfl, hat, hncp, hcpm⟩ := hf.form
  obtain ⟨b, off, rfl, _, _⟩ := hc k (by omega)
  have hcc := hfit.1
  have hcm := hfit.2
  unfold maxLen at hcm
  have HR : Hid (takeR H st head es = match goOn H st (es.drop k) with | some st' => if st'.head = head then (st', 0) else (st, 390) | none => (st, 390)) := by
    show _ = _
    unfold takeR
    rw [hk, if_neg (by omega)]
  have HREST := Lib.hid (entsAt_drop hc k)
  have hdl : (es.drop k).length = es.length - k := List.length_drop
  have HF := Lib.hid hf
  have HAT := Lib.hid hat
  have HL := Lib.hid hl
  have HH := Lib.hid hh
  have CI : Hid (∀ w', Below w.heap.size w w' → w'.cell? ⟨w.heap.size, 0, none⟩ = some (.pointer (some ⟨p, 0, none⟩)) → Calls Try.prog 64 #[.slice (some ⟨b, off, none⟩) es.length cap, .func (.func 65) #[] #[.pointer (some ⟨w.heap.size, 0, none⟩)]] w' fun e w'' => e = .returned (.int .i64 (k : Int)) ∧ Below w'.heap.size w' w'') := fun w' hb' hfb => by
    refine (indexEnt_any es _ cap st.head p w.heap.size st.all.length cp ao 77 w' (by omega) (hc.kept hb' (Nat.le_refl _)) ((hb'.block p HF.out.lt).trans HF.out.at_) hfb).mono fun e w'' h => ⟨?_, h.2⟩
    have h1 := h.1
    unfold IdxE at h1
    rw [if_pos (by omega), hk] at h1
    exact h1
  have hpl := hf.lt
  have hc0 : w.cell? ⟨p, 0, none⟩ = some (.slice ao st.all.length cp) := by simp [World.cell?, hf.at_]
  have hc1 : w.cell? ⟨p, 1, none⟩ = some (.string st.head) := by simp [World.cell?, hf.at_]
  have hk0 : (0 : Int) ≤ (k : Int) := Int.natCast_nonneg _
  have hkc : (k : Int) ≤ (cap : Int) := by omega
  have hkl1 : (k : Int) ≤ (es.length : Int) := by omega
  have hcne : ¬ cap = k := by omega
  have d0 : decide ((k : Int) < 0) = false := decide_eq_false (by omega)
  have hml : (es.length : Int) ≤ 1000000 := by omega
  have HDL := Lib.hid hdl
  generalize es.drop k = rest at *
  generalize hmm : es.length = m at *
  have HM := Lib.hid hmm
  clear hc hk hf hat hl hh hfit hdl hmm hcc hcm
  go_enter Try.func36, Try.ntmps36
  go_upto_region 1 with fail
  refine name_world (fun w3 => w3.cell? ⟨w.heap.size, 0, none⟩ = some (.pointer (some ⟨p, 0, none⟩)) ∧ w3.cell? ⟨p, 0, none⟩ = some (.slice ao st.all.length cp) ∧ w3.cell? ⟨p, 1, none⟩ = some (.string st.head) ∧ Below w.heap.size w w3) ⟨cells_new w [.pointer (some ⟨p, 0, none⟩)] _ 0 _ rfl, (((Below.refl w.heap.size w).alloc (Nat.le_refl _) _).cell (p := ⟨p, 0, none⟩) hpl).trans hc0, (((Below.refl w.heap.size w).alloc (Nat.le_refl _) _).cell (p := ⟨p, 1, none⟩) hpl).trans hc1, (Below.refl _ w).alloc (Nat.le_refl _) _⟩ ?_
  clear hc0 hc1
  rintro w3 ⟨hf0, hc0, hc1, hb3⟩
  have HB3 := Lib.hid hb3
  clear hb3
  go_wp2_with fail
  refine (CI.out _ HB3.out hf0).mono ?_
  rintro e w4 ⟨rfl, hb4⟩
  have HB4 := Lib.hid (HB3.out.trans (hb4.mono HB3.out.size))
  have hf0 := (hb4.cell (World.block_lt_of_cell? _ _ hf0)).trans hf0
  have hc0 := (hb4.cell (World.block_lt_of_cell? _ _ hc0)).trans hc0
  have hc1 := (hb4.cell (World.block_lt_of_cell? _ _ hc1)).trans hc1
  clear hb4 HB3 CI
  have CL : Hid (∀ w5, Below w4.heap.size w4 w5 → Calls Try.prog 66 #[.slice ao st.all.length cp] w5 (EntOut w5 st.all)) := fun w5 hb5 => by
    refine clone_any st.all ao _ cp w5 rfl (by have := HL.out; omega) (fun a ha => ?_) ((HAT.out.kept HB4.out (Nat.le_refl _)).kept hb5 (Nat.le_refl _))
    rcases HF.out.own.2 with ⟨h, _⟩ | ⟨g, cap, cur, h, _⟩
    · injection h with h1; rw [h1] at ha; cases ha
    · injection h with h1; rw [h1] at ha; cases ha; rfl
  have hX3 : w.heap.size ≤ w4.heap.size := HB4.out.size
  go_wp2_with fail
  refine wp_region_tail 13 (R := fun qi w' v => if qi = 5 then w'.ownsRow w4.heap.size 82 3 v st.all.length (Fd.flat st.all) else if qi = 11 then ∃ x, v = .agg #[x, .string st.head] ∧ w'.ownsRow w4.heap.size 82 3 x st.all.length (Fd.flat st.all) else if qi = 12 then ∃ q, v = .pointer (some ⟨q, 0, none⟩) ∧ w4.heap.size ≤ q ∧ w'.heap[q]? = some (.cells #[.slice none 0 0, .string ByteArray.empty] 75 (0, 0)) else v = [Value.pointer (some ⟨p, 0, none⟩), .pointer (some ⟨p, 0, none⟩), .pointer (some ⟨p, 0, none⟩), .pointer (some ⟨p, 0, none⟩), .slice ao st.all.length cp, undef, .pointer (some ⟨p, 0, none⟩), .pointer (some ⟨p, 0, none⟩), .pointer (some ⟨p, 0, none⟩), .pointer (some ⟨p, 1, none⟩), .string st.head, undef, undef].getD qi undef)
    (by kernel_rfl) (by kernel_rfl) (by kernel_rfl) (of_decide_eq_true (by kernel_rfl)) (by kernel_rfl) (by kernel_rfl) (by kernel_rfl) (by kernel_rfl) ?hRR (by kernel_rfl) (steps_of ?hs) ?hd
  case hRR =>
    intro qi w1 w2 v hb hv
    by_cases h5 : qi = 5
    · rw [if_pos h5] at hv ⊢
      exact owns_kept hv hb (Nat.le_refl _)
    rw [if_neg h5] at hv ⊢
    by_cases h11 : qi = 11
    · rw [if_pos h11] at hv ⊢
      obtain ⟨x, h1, h2⟩ := hv
      exact ⟨x, h1, owns_kept h2 hb (Nat.le_refl _)⟩
    rw [if_neg h11] at hv ⊢
    by_cases h12 : qi = 12
    · rw [if_pos h12] at hv ⊢
      obtain ⟨q, h1, h2, h3⟩ := hv
      exact ⟨q, h1, h2, (hb.block q (Array.getElem?_eq_some_iff.1 h3).1).trans h3⟩
    rw [if_neg h12] at hv ⊢
    exact hv
  case hs =>
    refine ⟨?_, ?_, ?_, ?_, ?_, ?_, ?_, ?_, ?_, ?_, ?_, ?_, ?_, trivial⟩
    · refine stepOk_value rfl fun a w5 ht => ?_
      have e3 : a.tmps[3]?.getD undef = .pointer (some ⟨w.heap.size, 0, none⟩) := ht.old' 3 (.pointer (some ⟨w.heap.size, 0, none⟩)) (by kernel_rfl) rfl
      have hc := (ht.below.cell (p := ⟨w.heap.size, 0, none⟩) (World.block_lt_of_cell? _ _ hf0)).trans hf0
      exact ⟨Value.pointer (some ⟨p, 0, none⟩), w5, by go_simp, Below.refl _ _, rfl⟩
    · refine stepOk_value rfl fun a w5 ht => ?_
      have e29 : a.tmps[29]?.getD undef = Value.pointer (some ⟨p, 0, none⟩) := ht.dep' 0 29 (by kernel_rfl) rfl
      exact ⟨.pointer (some ⟨p, 0, none⟩), w5, by go_simp, Below.refl _ _, rfl⟩
    · refine stepOk_value rfl fun a w5 ht => ?_
      have e30 : a.tmps[30]?.getD undef = .pointer (some ⟨p, 0, none⟩) := ht.dep' 1 30 (by kernel_rfl) rfl
      exact ⟨.pointer (some ⟨p, 0, none⟩), w5, by go_simp, Below.refl _ _, rfl⟩
    · refine stepOk_value rfl fun a w5 ht => ?_
      have e31 : a.tmps[31]?.getD undef = .pointer (some ⟨p, 0, none⟩) := ht.dep' 2 31 (by kernel_rfl) rfl
      exact ⟨.pointer (some ⟨p, 0, none⟩), w5, by go_simp, Below.refl _ _, rfl⟩
    · refine stepOk_value rfl fun a w5 ht => ?_
      have e32 : a.tmps[32]?.getD undef = .pointer (some ⟨p, 0, none⟩) := ht.dep' 3 32 (by kernel_rfl) rfl
      have hc := (ht.below.cell (p := ⟨p, 0, none⟩) (World.block_lt_of_cell? _ _ hc0)).trans hc0
      exact ⟨.slice ao st.all.length cp, w5, by go_simp, Below.refl _ _, rfl⟩
    · refine stepOk_call rfl fun a w5 ht => ?_
      have e33 : a.tmps[33]?.getD undef = .slice ao st.all.length cp := ht.dep' 4 33 (by kernel_rfl) rfl
      refine ⟨66, #[.slice ao st.all.length cp], by go_simp, (CL.out w5 ht.below).mono ?_⟩
      rintro e w' ⟨v, rfl, h1, h2⟩
      exact ⟨v, rfl, h2, owns_base h1 ht.below.size⟩
    · refine stepOk_value rfl fun a w5 ht => ?_
      have e3 : a.tmps[3]?.getD undef = .pointer (some ⟨w.heap.size, 0, none⟩) := ht.old' 3 (.pointer (some ⟨w.heap.size, 0, none⟩)) (by kernel_rfl) rfl
      have hc := (ht.below.cell (p := ⟨w.heap.size, 0, none⟩) (World.block_lt_of_cell? _ _ hf0)).trans hf0
      exact ⟨.pointer (some ⟨p, 0, none⟩), w5, by go_simp, Below.refl _ _, rfl⟩
    · refine stepOk_value rfl fun a w5 ht => ?_
      have e35 : a.tmps[35]?.getD undef = .pointer (some ⟨p, 0, none⟩) := ht.dep' 6 35 (by kernel_rfl) rfl
      exact ⟨.pointer (some ⟨p, 0, none⟩), w5, by go_simp, Below.refl _ _, rfl⟩
    · refine stepOk_value rfl fun a w5 ht => ?_
      have e36 : a.tmps[36]?.getD undef = .pointer (some ⟨p, 0, none⟩) := ht.dep' 7 36 (by kernel_rfl) rfl
      exact ⟨.pointer (some ⟨p, 0, none⟩), w5, by go_simp, Below.refl _ _, rfl⟩
    · refine stepOk_value rfl fun a w5 ht => ?_
      have e37 : a.tmps[37]?.getD undef = .pointer (some ⟨p, 0, none⟩) := ht.dep' 8 37 (by kernel_rfl) rfl
      exact ⟨.pointer (some ⟨p, 1, none⟩), w5, by go_simp, Below.refl _ _, rfl⟩
    · refine stepOk_value rfl fun a w5 ht => ?_
      have e38 : a.tmps[38]?.getD undef = .pointer (some ⟨p, 1, none⟩) := ht.dep' 9 38 (by kernel_rfl) rfl
      have hc := (ht.below.cell (p := ⟨p, 1, none⟩) (World.block_lt_of_cell? _ _ hc1)).trans hc1
      exact ⟨.string st.head, w5, by go_simp, Below.refl _ _, rfl⟩
    · refine stepOk_value rfl fun a w5 ht => ?_
      have e34 : w5.ownsRow w4.heap.size 82 3 (a.tmps[34]?.getD undef) st.all.length (Fd.flat st.all) := ht.dep' 5 34 (by kernel_rfl) rfl
      have e39 : a.tmps[39]?.getD undef = .string st.head := ht.dep' 10 39 (by kernel_rfl) rfl
      obtain ⟨ao1, cp1, hx34, _⟩ := entsAt_owns e34
      rw [hx34] at e34
      refine ⟨.agg #[.slice ao1 st.all.length cp1, .string st.head], w5, ?_, Below.refl _ _, ⟨_, rfl, e34⟩⟩
      go_simp
    · refine stepOk_value rfl fun a w5 ht => ?_
      refine ⟨.pointer (some ⟨w5.heap.size, 0, none⟩), w5.alloc (.cells #[.slice none 0 0, .string ByteArray.empty] 75), ?_, (Below.refl _ _).alloc (Nat.le_refl _) _, ⟨_, rfl, ht.below.size, heap_alloc_new w5 _⟩⟩
      go_simp
      rfl
  case hd =>
    intro vs w8 hl hb8 hvs
    have hl : vs.length = 13 := hl
    obtain ⟨v0, r0, rfl, l0⟩ := uncons vs hl
    obtain ⟨v1, r1, rfl, l1⟩ := uncons r0 l0
    obtain ⟨v2, r2, rfl, l2⟩ := uncons r1 l1
    obtain ⟨v3, r3, rfl, l3⟩ := uncons r2 l2
    obtain ⟨v4, r4, rfl, l4⟩ := uncons r3 l3
    obtain ⟨v5, r5, rfl, l5⟩ := uncons r4 l4
    obtain ⟨v6, r6, rfl, l6⟩ := uncons r5 l5
    obtain ⟨v7, r7, rfl, l7⟩ := uncons r6 l6
    obtain ⟨v8, r8, rfl, l8⟩ := uncons r7 l7
    obtain ⟨v9, r9, rfl, l9⟩ := uncons r8 l8
    obtain ⟨v10, r10, rfl, l10⟩ := uncons r9 l9
    obtain ⟨v11, r11, rfl, l11⟩ := uncons r10 l10
    obtain ⟨v12, r12, rfl, l12⟩ := uncons r11 l11
    obtain rfl := List.eq_nil_of_length_eq_zero l12
    have h0 : v0 = Value.pointer (some ⟨p, 0, none⟩) := hvs 0 (by decide)
    subst h0
    have h11 : ∃ x, v11 = .agg #[x, .string st.head] ∧ w8.ownsRow w4.heap.size 82 3 x st.all.length (Fd.flat st.all) := hvs 11 (by decide)
    obtain ⟨x, rfl, hownx⟩ := h11
    have h12 : ∃ q, v12 = .pointer (some ⟨q, 0, none⟩) ∧ w4.heap.size ≤ q ∧ w8.heap[q]? = some (.cells #[.slice none 0 0, .string ByteArray.empty] 75 (0, 0)) := hvs 12 (by decide)
    obtain ⟨q, rfl, hXq, hq8⟩ := h12
    clear hvs
    simp only [puts, List.map, List.take_succ_cons, List.take_zero, List.drop_succ_cons, List.drop_zero, go_sem, List.setIfInBounds_toArray, List.set_cons_succ, List.set_cons_zero]
    obtain ⟨ax, cx, rfl, _, _, _⟩ := entsAt_owns hownx
    have hgx : ∀ g, (Value.slice ax st.all.length cx).ownBlock = some g → g ≠ q := fun g hg h => by
      subst h
      rcases hownx.2 with ⟨h1, _⟩ | ⟨g', _, _, h1, _, h2, _⟩
      · rw [h1] at hg; cases hg
      · rw [h1] at hg
        have : g' = g := by simpa [Value.ownBlock] using hg
        subst this
        rw [hq8] at h2
        simp at h2
    have HB8 : Hid (Below w4.heap.size w4 w8) := hb8
    have HFQ : Hid (∀ cs, FeedIn (fun k => w4.heap.size ≤ k) q 75 st (.slice ax st.all.length cx) (w8.setRow q cs) ∨ cs ≠ #[.slice ax st.all.length cx, .string st.head]) := fun cs => by
      by_cases h : cs = #[.slice ax st.all.length cx, .string st.head]
      · left
        subst h
        refine ⟨setRow_heap _ _ _ _ _ _ hq8, ?_, fun h => hgx q h rfl, hXq, fun g hg => (hownx.lt g hg).1⟩
        exact owns_base (hownx.kept (row := some q) ⟨rfl, rfl, rfl, by simp, fun k _ hk => setRow_other _ _ k _ (fun e => hk (by rw [e]))⟩ (Or.inr fun h => hgx q h rfl)) (Nat.zero_le _)
      · exact Or.inr h
    have HFB := Lib.hid hf0
    have HFL : Hid (w.heap.size < w4.heap.size) := World.block_lt_of_cell? _ _ hf0
    clear hb8 hf0 hc0 hc1 CL hX3
    go_wp2_with (refine wpList_store_row rfl 75 (.tmp 8) (.tmp 40) rfl q #[.slice ax st.all.length cx, .string st.head] rfl rfl 75 #[.slice none 0 0, .string ByteArray.empty] hq8 (by kernel_rfl) (by kernel_rfl) (by kernel_rfl) ?_)
    refine name_world (fun w9 => FeedIn (fun k => w4.heap.size ≤ k) q 75 st (.slice ax st.all.length cx) w9 ∧ Below w4.heap.size w4 w9) ⟨?_, HB8.out.trans (below_setRow _ _ _ _ hXq)⟩ ?_
    · rcases HFQ.out #[.slice ax st.all.length cx, .string st.head] with h | h
      · exact h
      · exact absurd rfl h
    rintro w9 ⟨hf9, hb9⟩
    have HF9 := Lib.hid hf9
    have HB9 := Lib.hid hb9
    clear hf9 hb9 HFQ HB8 hownx hgx hq8
    go_wp2_with fail
    have hmkl : ((m - k : Nat) : Int) ≤ 1000000 := by omega
    have HMK : Hid (m - k ≤ m) := Nat.sub_le _ _
    generalize m - k = mk at *
    go_loopw [45] (fun i wr => ∃ (j : Nat) (sk : Fd.State) (x : Value), (j : Int) ≤ (mk : Int) ∧ i = .int .i64 (j : Int) ∧ Hid (FeedIn (fun k => w4.heap.size ≤ k) q 75 sk x wr) ∧ Hid (goOn H st rest = goOn H sk (rest.drop j)) ∧ Hid (sk.all.length = st.all.length + j) ∧ Hid (sk.head.size ≤ 32) ∧ Hid (Below w4.heap.size w4 wr)) (fun i _ => mk - (intOf i).toNat)
    case atStart => exact ⟨0, st, _, by omega, rfl, HF9, rfl, rfl, HH, HB9⟩
    case round =>
      clear HF9 HB9
      obtain ⟨j, sk, xr, hj, rfl, HFK, HGO, HLN, HHD, HBE⟩ := hrel
      have hj0 : (0 : Int) ≤ (j : Int) := Int.natCast_nonneg _
      by_cases hlt : (j : Int) < (mk : Int)
--R1{
      · have hjl : j < rest.length := by rw [HDL.out]; omega
        obtain ⟨b2, o2, ha2, hbl, hcell0⟩ := HREST.out j hjl
        cases ha2
        have hcell := (hcell0.kept HB4.out hbl).kept HBE.out (Nat.lt_of_lt_of_le hbl HB4.out.size)
        have HDR : Hid (rest.drop j = rest.getD j Ent0 :: rest.drop (j + 1)) := by
          show _ = _
          rw [List.drop_eq_getElem_cons hjl]
          congr 1
          simp [List.getD, hjl]
        generalize rest.getD j Ent0 = x at *
        obtain ⟨xs, xp, xb⟩ := x
        obtain ⟨y0, y1, y2⟩ := hcell
        simp only at y0 y1 y2
        have hjmk : (j : Int) < ((mk : Nat) : Int) := hlt
        clear hjl hbl hcell0
        go_upto_region 12 with (refine wpList_store_row rfl 82 (.tmp 10) (.tmp 48) rfl wr.heap.size #[.int .i64 xs, .string xp, .string xb] rfl rfl _ _ (heap_alloc_new _ _) (by kernel_rfl) (by kernel_rfl) (by kernel_rfl) ?_)
        refine name_world (fun w5 => (w5.cell? ⟨wr.heap.size, 0, none⟩ = some (.int .i64 xs) ∧ w5.cell? ⟨wr.heap.size, 1, none⟩ = some (.string xp) ∧ w5.cell? ⟨wr.heap.size, 2, none⟩ = some (.string xb)) ∧ Below wr.heap.size wr w5) ?_ ?_
        · have h1 := setRow_heap (wr.alloc (.cells #[.int .i64 0, .string ByteArray.empty, .string ByteArray.empty] 82)) wr.heap.size _ #[.int .i64 xs, .string xp, .string xb] _ _ (heap_alloc_new wr (.cells #[.int .i64 0, .string ByteArray.empty, .string ByteArray.empty] 82))
          have hb2 := ((Below.refl wr.heap.size wr).alloc (Nat.le_refl _) (.cells #[.int .i64 0, .string ByteArray.empty, .string ByteArray.empty] 82)).trans (below_setRow wr.heap.size _ wr.heap.size #[.int .i64 xs, .string xp, .string xb] (Nat.le_refl _))
          exact ⟨⟨(cell_of_row _ _ _ _ _ _ h1).trans rfl, (cell_of_row _ _ _ _ _ _ h1).trans rfl, (cell_of_row _ _ _ _ _ _ h1).trans rfl⟩, hb2⟩
        rintro w5 ⟨⟨hx0, hx1, hx2⟩, hb5⟩
        have HFK5 := Lib.hid (HFK.out.turned (Turned.of_below (S := fun _ => False) hb5) (fun _ _ _ h => h))
        have HBE5 : Hid (Below w4.heap.size w4 w5) := HBE.out.trans (hb5.mono HBE.out.size)
        clear hb5 HFK HBE y0 y1 y2
        generalize wr.heap.size = qe at *
        obtain ⟨ak, ck, hxr, _⟩ := HFK5.out.form
        subst hxr
        have hlen6 : sk.all.length ≤ 1000000 := by have h1 := HLN.out; have h2 := HL.out; have h3 := HM.out; have h4 := HDL.out; have h5 := HMK.out; omega
        have CN := Lib.hid (fun w' (hb' : Below w5.heap.size w5 w') => next_any xb sk.head q sk.all.length ck ak 75 w' ((hb'.block q HFK5.out.lt).trans HFK5.out.at_) hlen6)
        have heq := equal_ent ⟨xs, xp, xb⟩ (sk.next xb)
        have hgd := guard_ent
        unfold Fd.State.next Fd.Ent.val at heq
        simp only at heq
        by_cases hxy : (⟨xs, xp, xb⟩ : Fd.Ent) = sk.next xb
        · have hxy2 := hxy
          unfold Fd.State.next at hxy2
          rw [decide_eq_true hxy2] at heq
          have HXY := Lib.hid hxy
          have CBB := Lib.hid (fun w => (big_any xb w).mono (R' := fun e w' => e = .returned (.bool (isBig xb)) ∧ Below w.heap.size w w') fun e w' h => ⟨h.1, by rw [h.2]; exact Below.refl _ _⟩)
          clear hxy hxy2
          cases hbg : isBig xb with
          | true =>
            have CB := CBB
            rw [hbg] at CB
            have HNO : Hid (takeR H st head es = (st, 390)) := by
              show _ = _
              rw [HR.out, HGO.out, HDR.out]
              unfold goOn
              rw [if_neg (by rw [hbg]; simp)]
            go_wp2_with fail
            refine wp_region_puts2 (R := fun qi w' v => v = [Value.agg #[.int .i64 xs, .string xp, .string xb], .pointer (some ⟨qe, 2, none⟩), .string xb, .agg #[.int .i64 ((sk.all.length : Int) + 1), .string sk.head, .string xb], .bool false, .bool false, .pointer (some ⟨qe, 2, none⟩), .string xb, .bool true, .bool true].getD qi undef)
              (by kernel_rfl) (by kernel_rfl) (by kernel_rfl) ?hRR (by kernel_rfl) (steps_of ?hs) ?hd
            case hRR =>
              intro qi w1 w2 v hb hv
              exact hv
            case hs =>
              refine ⟨?_, ?_, ?_, ?_, ?_, ?_, ?_, ?_, ?_, ?_, trivial⟩
              · refine stepOk_value rfl fun a w5 ht => ?_
                have e10 : a.tmps[10]?.getD undef = .pointer (some ⟨qe, 0, none⟩) := ht.old' 10 (.pointer (some ⟨qe, 0, none⟩)) (by kernel_rfl) rfl
                have hc0 := (ht.below.cell (p := ⟨qe, 0, none⟩) (World.block_lt_of_cell? _ _ hx0)).trans hx0
                have hc1 := (ht.below.cell (p := ⟨qe, 1, none⟩) (World.block_lt_of_cell? _ _ hx1)).trans hx1
                have hc2 := (ht.below.cell (p := ⟨qe, 2, none⟩) (World.block_lt_of_cell? _ _ hx2)).trans hx2
                exact ⟨Value.agg #[.int .i64 xs, .string xp, .string xb], w5, by go_simp, Below.refl _ _, rfl⟩
              · refine stepOk_value rfl fun a w5 ht => ?_
                have e10 : a.tmps[10]?.getD undef = .pointer (some ⟨qe, 0, none⟩) := ht.old' 10 (.pointer (some ⟨qe, 0, none⟩)) (by kernel_rfl) rfl
                exact ⟨.pointer (some ⟨qe, 2, none⟩), w5, by go_simp, Below.refl _ _, rfl⟩
              · refine stepOk_value rfl fun a w5 ht => ?_
                have e50 : a.tmps[50]?.getD undef = .pointer (some ⟨qe, 2, none⟩) := ht.dep' 1 50 (by kernel_rfl) rfl
                have hc2 := (ht.below.cell (p := ⟨qe, 2, none⟩) (World.block_lt_of_cell? _ _ hx2)).trans hx2
                exact ⟨.string xb, w5, by go_simp, Below.refl _ _, rfl⟩
              · refine stepOk_call rfl fun a w5 ht => ?_
                have e8 : a.tmps[8]?.getD undef = .pointer (some ⟨q, 0, none⟩) := ht.old' 8 (.pointer (some ⟨q, 0, none⟩)) (by kernel_rfl) rfl
                have e51 : a.tmps[51]?.getD undef = .string xb := ht.dep' 2 51 (by kernel_rfl) rfl
                refine ⟨67, #[.pointer (some ⟨q, 0, none⟩), .string xb], by go_simp, (CN.out w5 ht.below).mono ?_⟩
                rintro e w' ⟨rfl, hb⟩
                exact ⟨_, rfl, hb, rfl⟩
              · refine stepOk_value rfl fun a w5 ht => ?_
                have e49 : a.tmps[49]?.getD undef = Value.agg #[.int .i64 xs, .string xp, .string xb] := ht.dep' 0 49 (by kernel_rfl) rfl
                have e52 : a.tmps[52]?.getD undef = .agg #[.int .i64 ((sk.all.length : Int) + 1), .string sk.head, .string xb] := ht.dep' 3 52 (by kernel_rfl) rfl
                exact ⟨.bool false, w5, by go_simp, Below.refl _ _, rfl⟩
              · refine stepOk_value rfl fun a w5 ht => ?_
                have e53 : a.tmps[53]?.getD undef = .bool false := ht.dep' 4 53 (by kernel_rfl) rfl
                exact ⟨.bool false, w5, by go_simp, Below.refl _ _, rfl⟩
              · refine stepOk_value_guarded 5 54 false rfl (by kernel_rfl) rfl (Nat.le_of_ble_eq_true rfl) (fun w v h => h) fun a w5 ht => ?_
                have e10 : a.tmps[10]?.getD undef = .pointer (some ⟨qe, 0, none⟩) := ht.old' 10 (.pointer (some ⟨qe, 0, none⟩)) (by kernel_rfl) rfl
                exact ⟨.pointer (some ⟨qe, 2, none⟩), w5, by go_simp, Below.refl _ _, rfl⟩
              · refine stepOk_value_guarded 5 54 false rfl (by kernel_rfl) rfl (Nat.le_of_ble_eq_true rfl) (fun w v h => h) fun a w5 ht => ?_
                have e55 : a.tmps[55]?.getD undef = .pointer (some ⟨qe, 2, none⟩) := ht.dep' 6 55 (by kernel_rfl) rfl
                have hc2 := (ht.below.cell (p := ⟨qe, 2, none⟩) (World.block_lt_of_cell? _ _ hx2)).trans hx2
                exact ⟨.string xb, w5, by go_simp, Below.refl _ _, rfl⟩
              · refine stepOk_call_guarded 5 54 false rfl (by kernel_rfl) rfl (Nat.le_of_ble_eq_true rfl) (fun w v h => h) fun a w5 ht => ?_
                have e56 : a.tmps[56]?.getD undef = .string xb := ht.dep' 7 56 (by kernel_rfl) rfl
                refine ⟨68, #[.string xb], by go_simp, (CB.out w5).mono ?_⟩
                rintro e w' ⟨rfl, hb⟩
                exact ⟨_, rfl, hb, rfl⟩
              · refine stepOk_value rfl fun a w5 ht => ?_
                have e54 : a.tmps[54]?.getD undef = .bool false := ht.dep' 5 54 (by kernel_rfl) rfl
                have e57 : a.tmps[57]?.getD undef = .bool true := ht.dep' 8 57 (by kernel_rfl) rfl
                exact ⟨.bool true, w5, by go_simp, Below.refl _ _, rfl⟩
            case hd =>
              intro vs w8 hl hb8 hvs
              have hl : vs.length = 10 := hl
              obtain ⟨v0, r0, rfl, l0⟩ := uncons vs hl
              obtain ⟨v1, r1, rfl, l1⟩ := uncons r0 l0
              obtain ⟨v2, r2, rfl, l2⟩ := uncons r1 l1
              obtain ⟨v3, r3, rfl, l3⟩ := uncons r2 l2
              obtain ⟨v4, r4, rfl, l4⟩ := uncons r3 l3
              obtain ⟨v5, r5, rfl, l5⟩ := uncons r4 l4
              obtain ⟨v6, r6, rfl, l6⟩ := uncons r5 l5
              obtain ⟨v7, r7, rfl, l7⟩ := uncons r6 l6
              obtain ⟨v8, r8, rfl, l8⟩ := uncons r7 l7
              obtain ⟨v9, r9, rfl, l9⟩ := uncons r8 l8
              obtain rfl := List.eq_nil_of_length_eq_zero l9
              have h9 : v9 = .bool true := hvs 9 (by decide)
              subst h9
              clear hvs
              simp only [puts, List.map, go_sem, List.setIfInBounds_toArray, List.set_cons_succ, List.set_cons_zero]
              have HB8' : Hid (Below w.heap.size w w8) := HB4.out.trans ((HBE5.out.trans (hb8.mono HBE5.out.size)).mono HB4.out.size)
              clear hx0 hx1 hx2 heq hgd CN CB CBB hb8
              go_wp2_with fail
              go_ret
              rw [HNO.out]
              exact takeOut_same 390 HF.out HB8'.out
          | false =>
            have CB := CBB
            rw [hbg] at CB
            have HGO2 : Hid (goOn H st rest = goOn H (sk.push H ⟨xs, xp, xb⟩) (rest.drop (j + 1))) := by
              show _ = _
              rw [HGO.out, HDR.out]
              conv => lhs; unfold goOn
              rw [if_pos ⟨HXY.out, hbg⟩]
            have hxok : Fd.Ent.ok ⟨xs, xp, xb⟩ := by
              rw [HXY.out]
              have h1 := HHD.out
              have h2 : ¬ (8000 : Int) < (xb.size : Int) := by
                intro h
                unfold isBig at hbg
                rw [decide_eq_true h] at hbg
                cases hbg
              exact ⟨by show -9223372036854775808 ≤ (sk.all.length : Int) + 1; omega, by show (sk.all.length : Int) + 1 ≤ _; omega, by show sk.head.size ≤ _; omega, by show xb.size ≤ _; omega, by show sk.head.size + xb.size ≤ _; omega⟩
            have CP : Hid (∀ w', Below w5.heap.size w5 w' → Calls Try.prog 69 #[.pointer (some ⟨q, 0, none⟩), .agg #[.int .i64 xs, .string xp, .string xb]] w' fun r w'' => r = .returned (.tuple #[]) ∧ ∃ v', FeedIn (fun k => w4.heap.size ≤ k ∨ w'.heap.size ≤ k) q 75 (sk.push H ⟨xs, xp, xb⟩) v' w'' ∧ Turned (fun k => w4.heap.size ≤ k) w' w'') := fun w' hb' =>
              push_any hS ⟨xs, xp, xb⟩ hxok (fun k => w4.heap.size ≤ k) q _ sk _ w' (HFK5.out.turned (Turned.of_below (S := fun _ => False) hb') (fun _ _ _ h => h)) hlen6
            have HLN2 : Hid ((sk.push H ⟨xs, xp, xb⟩).all.length = st.all.length + (j + 1)) := by
              show (sk.all ++ [_]).length = _
              rw [List.length_append, HLN.out]
              rfl
            have HHD2 : Hid ((sk.push H ⟨xs, xp, xb⟩).head.size ≤ 32) := by show (H _).size ≤ 32; rw [hS.1]; exact Nat.le_refl _
            go_wp2_with fail
            refine wp_region_puts2 (R := fun qi w' v => v = [Value.agg #[.int .i64 xs, .string xp, .string xb], .pointer (some ⟨qe, 2, none⟩), .string xb, .agg #[.int .i64 ((sk.all.length : Int) + 1), .string sk.head, .string xb], .bool false, .bool false, .pointer (some ⟨qe, 2, none⟩), .string xb, .bool false, .bool false].getD qi undef)
              (by kernel_rfl) (by kernel_rfl) (by kernel_rfl) ?hRR (by kernel_rfl) (steps_of ?hs) ?hd
            case hRR =>
              intro qi w1 w2 v hb hv
              exact hv
            case hs =>
              refine ⟨?_, ?_, ?_, ?_, ?_, ?_, ?_, ?_, ?_, ?_, trivial⟩
              · refine stepOk_value rfl fun a w5 ht => ?_
                have e10 : a.tmps[10]?.getD undef = .pointer (some ⟨qe, 0, none⟩) := ht.old' 10 (.pointer (some ⟨qe, 0, none⟩)) (by kernel_rfl) rfl
                have hc0 := (ht.below.cell (p := ⟨qe, 0, none⟩) (World.block_lt_of_cell? _ _ hx0)).trans hx0
                have hc1 := (ht.below.cell (p := ⟨qe, 1, none⟩) (World.block_lt_of_cell? _ _ hx1)).trans hx1
                have hc2 := (ht.below.cell (p := ⟨qe, 2, none⟩) (World.block_lt_of_cell? _ _ hx2)).trans hx2
                exact ⟨Value.agg #[.int .i64 xs, .string xp, .string xb], w5, by go_simp, Below.refl _ _, rfl⟩
              · refine stepOk_value rfl fun a w5 ht => ?_
                have e10 : a.tmps[10]?.getD undef = .pointer (some ⟨qe, 0, none⟩) := ht.old' 10 (.pointer (some ⟨qe, 0, none⟩)) (by kernel_rfl) rfl
                exact ⟨.pointer (some ⟨qe, 2, none⟩), w5, by go_simp, Below.refl _ _, rfl⟩
              · refine stepOk_value rfl fun a w5 ht => ?_
                have e50 : a.tmps[50]?.getD undef = .pointer (some ⟨qe, 2, none⟩) := ht.dep' 1 50 (by kernel_rfl) rfl
                have hc2 := (ht.below.cell (p := ⟨qe, 2, none⟩) (World.block_lt_of_cell? _ _ hx2)).trans hx2
                exact ⟨.string xb, w5, by go_simp, Below.refl _ _, rfl⟩
              · refine stepOk_call rfl fun a w5 ht => ?_
                have e8 : a.tmps[8]?.getD undef = .pointer (some ⟨q, 0, none⟩) := ht.old' 8 (.pointer (some ⟨q, 0, none⟩)) (by kernel_rfl) rfl
                have e51 : a.tmps[51]?.getD undef = .string xb := ht.dep' 2 51 (by kernel_rfl) rfl
                refine ⟨67, #[.pointer (some ⟨q, 0, none⟩), .string xb], by go_simp, (CN.out w5 ht.below).mono ?_⟩
                rintro e w' ⟨rfl, hb⟩
                exact ⟨_, rfl, hb, rfl⟩
              · refine stepOk_value rfl fun a w5 ht => ?_
                have e49 : a.tmps[49]?.getD undef = Value.agg #[.int .i64 xs, .string xp, .string xb] := ht.dep' 0 49 (by kernel_rfl) rfl
                have e52 : a.tmps[52]?.getD undef = .agg #[.int .i64 ((sk.all.length : Int) + 1), .string sk.head, .string xb] := ht.dep' 3 52 (by kernel_rfl) rfl
                exact ⟨.bool false, w5, by go_simp, Below.refl _ _, rfl⟩
              · refine stepOk_value rfl fun a w5 ht => ?_
                have e53 : a.tmps[53]?.getD undef = .bool false := ht.dep' 4 53 (by kernel_rfl) rfl
                exact ⟨.bool false, w5, by go_simp, Below.refl _ _, rfl⟩
              · refine stepOk_value_guarded 5 54 false rfl (by kernel_rfl) rfl (Nat.le_of_ble_eq_true rfl) (fun w v h => h) fun a w5 ht => ?_
                have e10 : a.tmps[10]?.getD undef = .pointer (some ⟨qe, 0, none⟩) := ht.old' 10 (.pointer (some ⟨qe, 0, none⟩)) (by kernel_rfl) rfl
                exact ⟨.pointer (some ⟨qe, 2, none⟩), w5, by go_simp, Below.refl _ _, rfl⟩
              · refine stepOk_value_guarded 5 54 false rfl (by kernel_rfl) rfl (Nat.le_of_ble_eq_true rfl) (fun w v h => h) fun a w5 ht => ?_
                have e55 : a.tmps[55]?.getD undef = .pointer (some ⟨qe, 2, none⟩) := ht.dep' 6 55 (by kernel_rfl) rfl
                have hc2 := (ht.below.cell (p := ⟨qe, 2, none⟩) (World.block_lt_of_cell? _ _ hx2)).trans hx2
                exact ⟨.string xb, w5, by go_simp, Below.refl _ _, rfl⟩
              · refine stepOk_call_guarded 5 54 false rfl (by kernel_rfl) rfl (Nat.le_of_ble_eq_true rfl) (fun w v h => h) fun a w5 ht => ?_
                have e56 : a.tmps[56]?.getD undef = .string xb := ht.dep' 7 56 (by kernel_rfl) rfl
                refine ⟨68, #[.string xb], by go_simp, (CB.out w5).mono ?_⟩
                rintro e w' ⟨rfl, hb⟩
                exact ⟨_, rfl, hb, rfl⟩
              · refine stepOk_value rfl fun a w5 ht => ?_
                have e54 : a.tmps[54]?.getD undef = .bool false := ht.dep' 5 54 (by kernel_rfl) rfl
                have e57 : a.tmps[57]?.getD undef = .bool false := ht.dep' 8 57 (by kernel_rfl) rfl
                exact ⟨.bool false, w5, by go_simp, Below.refl _ _, rfl⟩
            case hd =>
              intro vs w8 hl hb8 hvs
              have hl : vs.length = 10 := hl
              obtain ⟨v0, r0, rfl, l0⟩ := uncons vs hl
              obtain ⟨v1, r1, rfl, l1⟩ := uncons r0 l0
              obtain ⟨v2, r2, rfl, l2⟩ := uncons r1 l1
              obtain ⟨v3, r3, rfl, l3⟩ := uncons r2 l2
              obtain ⟨v4, r4, rfl, l4⟩ := uncons r3 l3
              obtain ⟨v5, r5, rfl, l5⟩ := uncons r4 l4
              obtain ⟨v6, r6, rfl, l6⟩ := uncons r5 l5
              obtain ⟨v7, r7, rfl, l7⟩ := uncons r6 l6
              obtain ⟨v8, r8, rfl, l8⟩ := uncons r7 l7
              obtain ⟨v9, r9, rfl, l9⟩ := uncons r8 l8
              obtain rfl := List.eq_nil_of_length_eq_zero l9
              have h9 : v9 = .bool false := hvs 9 (by decide)
              subst h9
              clear hvs
              simp only [puts, List.map, go_sem, List.setIfInBounds_toArray, List.set_cons_succ, List.set_cons_zero]
              have HB8' : Hid (Below w4.heap.size w4 w8) := HBE5.out.trans (hb8.mono HBE5.out.size)
              have hz0 := (hb8.cell (World.block_lt_of_cell? _ _ hx0)).trans hx0
              have hz1 := (hb8.cell (World.block_lt_of_cell? _ _ hx1)).trans hx1
              have hz2 := (hb8.cell (World.block_lt_of_cell? _ _ hx2)).trans hx2
              have CP8 := Lib.hid (CP.out w8 hb8)
              clear hx0 hx1 hx2 heq hgd CN CB CBB hb8 CP
              go_wp2_with fail
              refine CP8.out.mono ?_
              rintro e w9' ⟨rfl, v9, hf9, ht9⟩
              have HF9' : Hid (FeedIn (fun k => w4.heap.size ≤ k) q 75 (sk.push H ⟨xs, xp, xb⟩) v9 w9') :=
                ⟨hf9.at_, hf9.own, hf9.ne, hXq, fun g hg => by
                  rcases hf9.mine.2 g hg with h | h
                  · exact h
                  · have := HB8'.out.size; omega⟩
              have HB9' : Hid (Below w4.heap.size w4 w9') := HB8'.out.trans (ht9.below (fun _ h => h) HB8'.out.size)
              clear hf9 ht9 hz0 hz1 hz2 CP8
              go_wp2_with fail
              go_roundw
              case rel => exact ⟨j + 1, _, v9, by omega, by go_num, HF9', HGO2, HLN2, HHD2, HB9'⟩
              case measure => simp [intOf]; omega
        · have hxy2 := hxy
          unfold Fd.State.next at hxy2
          rw [decide_eq_false hxy2] at heq
          have HNO : Hid (takeR H st head es = (st, 390)) := by
            show _ = _
            rw [HR.out, HGO.out, HDR.out]
            unfold goOn
            rw [if_neg (fun h => hxy h.1)]
          clear hxy hxy2
          go_wp2_with fail
          refine wp_region_puts2 (R := fun qi w' v => v = [Value.agg #[.int .i64 xs, .string xp, .string xb], .pointer (some ⟨qe, 2, none⟩), .string xb, .agg #[.int .i64 ((sk.all.length : Int) + 1), .string sk.head, .string xb], .bool true, .bool true, undef, undef, undef, .bool true].getD qi undef)
            (by kernel_rfl) (by kernel_rfl) (by kernel_rfl) ?hRR (by kernel_rfl) (steps_of ?hs) ?hd
          case hRR =>
            intro qi w1 w2 v hb hv
            exact hv
          case hs =>
            refine ⟨?_, ?_, ?_, ?_, ?_, ?_, ?_, ?_, ?_, ?_, trivial⟩
            · refine stepOk_value rfl fun a w5 ht => ?_
              have e10 : a.tmps[10]?.getD undef = .pointer (some ⟨qe, 0, none⟩) := ht.old' 10 (.pointer (some ⟨qe, 0, none⟩)) (by kernel_rfl) rfl
              have hc0 := (ht.below.cell (p := ⟨qe, 0, none⟩) (World.block_lt_of_cell? _ _ hx0)).trans hx0
              have hc1 := (ht.below.cell (p := ⟨qe, 1, none⟩) (World.block_lt_of_cell? _ _ hx1)).trans hx1
              have hc2 := (ht.below.cell (p := ⟨qe, 2, none⟩) (World.block_lt_of_cell? _ _ hx2)).trans hx2
              exact ⟨Value.agg #[.int .i64 xs, .string xp, .string xb], w5, by go_simp, Below.refl _ _, rfl⟩
            · refine stepOk_value rfl fun a w5 ht => ?_
              have e10 : a.tmps[10]?.getD undef = .pointer (some ⟨qe, 0, none⟩) := ht.old' 10 (.pointer (some ⟨qe, 0, none⟩)) (by kernel_rfl) rfl
              exact ⟨.pointer (some ⟨qe, 2, none⟩), w5, by go_simp, Below.refl _ _, rfl⟩
            · refine stepOk_value rfl fun a w5 ht => ?_
              have e50 : a.tmps[50]?.getD undef = .pointer (some ⟨qe, 2, none⟩) := ht.dep' 1 50 (by kernel_rfl) rfl
              have hc2 := (ht.below.cell (p := ⟨qe, 2, none⟩) (World.block_lt_of_cell? _ _ hx2)).trans hx2
              exact ⟨.string xb, w5, by go_simp, Below.refl _ _, rfl⟩
            · refine stepOk_call rfl fun a w5 ht => ?_
              have e8 : a.tmps[8]?.getD undef = .pointer (some ⟨q, 0, none⟩) := ht.old' 8 (.pointer (some ⟨q, 0, none⟩)) (by kernel_rfl) rfl
              have e51 : a.tmps[51]?.getD undef = .string xb := ht.dep' 2 51 (by kernel_rfl) rfl
              refine ⟨67, #[.pointer (some ⟨q, 0, none⟩), .string xb], by go_simp, (CN.out w5 ht.below).mono ?_⟩
              rintro e w' ⟨rfl, hb⟩
              exact ⟨_, rfl, hb, rfl⟩
            · refine stepOk_value rfl fun a w5 ht => ?_
              have e49 : a.tmps[49]?.getD undef = Value.agg #[.int .i64 xs, .string xp, .string xb] := ht.dep' 0 49 (by kernel_rfl) rfl
              have e52 : a.tmps[52]?.getD undef = .agg #[.int .i64 ((sk.all.length : Int) + 1), .string sk.head, .string xb] := ht.dep' 3 52 (by kernel_rfl) rfl
              exact ⟨.bool true, w5, by go_simp, Below.refl _ _, rfl⟩
            · refine stepOk_value rfl fun a w5 ht => ?_
              have e53 : a.tmps[53]?.getD undef = .bool true := ht.dep' 4 53 (by kernel_rfl) rfl
              exact ⟨.bool true, w5, by go_simp, Below.refl _ _, rfl⟩
            · exact stepOk_skip 5 54 false true rfl (by decide) (by kernel_rfl) rfl (Nat.le_of_ble_eq_true rfl) (fun w v h => h) (fun w => rfl)
            · exact stepOk_skip 5 54 false true rfl (by decide) (by kernel_rfl) rfl (Nat.le_of_ble_eq_true rfl) (fun w v h => h) (fun w => rfl)
            · exact stepOk_skip 5 54 false true rfl (by decide) (by kernel_rfl) rfl (Nat.le_of_ble_eq_true rfl) (fun w v h => h) (fun w => rfl)
            · refine stepOk_value rfl fun a w5 ht => ?_
              have e54 : a.tmps[54]?.getD undef = .bool true := ht.dep' 5 54 (by kernel_rfl) rfl
              exact ⟨.bool true, w5, by go_simp, Below.refl _ _, rfl⟩
          case hd =>
            intro vs w8 hl hb8 hvs
            have hl : vs.length = 10 := hl
            obtain ⟨v0, r0, rfl, l0⟩ := uncons vs hl
            obtain ⟨v1, r1, rfl, l1⟩ := uncons r0 l0
            obtain ⟨v2, r2, rfl, l2⟩ := uncons r1 l1
            obtain ⟨v3, r3, rfl, l3⟩ := uncons r2 l2
            obtain ⟨v4, r4, rfl, l4⟩ := uncons r3 l3
            obtain ⟨v5, r5, rfl, l5⟩ := uncons r4 l4
            obtain ⟨v6, r6, rfl, l6⟩ := uncons r5 l5
            obtain ⟨v7, r7, rfl, l7⟩ := uncons r6 l6
            obtain ⟨v8, r8, rfl, l8⟩ := uncons r7 l7
            obtain ⟨v9, r9, rfl, l9⟩ := uncons r8 l8
            obtain rfl := List.eq_nil_of_length_eq_zero l9
            have h9 : v9 = .bool true := hvs 9 (by decide)
            subst h9
            clear hvs
            simp only [puts, List.map, go_sem, List.setIfInBounds_toArray, List.set_cons_succ, List.set_cons_zero]
            have HB8' : Hid (Below w.heap.size w w8) := HB4.out.trans ((HBE5.out.trans (hb8.mono HBE5.out.size)).mono HB4.out.size)
            clear hx0 hx1 hx2 heq hgd CN hb8
            go_wp2_with fail
            go_ret
            rw [HNO.out]
            exact takeOut_same 390 HF.out HB8'.out
--}R1
      · obtain rfl : j = mk := by omega
        have HG2 : Hid (goOn H st rest = some sk) := by
          show _ = _
          rw [HGO.out, List.drop_of_length_le (by rw [HDL.out]; exact Nat.le_refl _)]
          rfl
        obtain ⟨ak, ck, hxr, _⟩ := HFK.out.form
        subst hxr
        have hq0 : wr.cell? ⟨q, 0, none⟩ = some (.slice ak sk.all.length ck) := by simp [World.cell?, HFK.out.at_]
        have hq1 : wr.cell? ⟨q, 1, none⟩ = some (.string sk.head) := by simp [World.cell?, HFK.out.at_]
        have hfb : wr.cell? ⟨w.heap.size, 0, none⟩ = some (.pointer (some ⟨p, 0, none⟩)) := (HBE.out.cell HFL.out).trans HFB.out
        by_cases hhe : sk.head = head
        · have hbq : (sk.head.toList == head.toList) = true := by rw [bytes_beq]; exact decide_eq_true hhe
          have hbq2 : (sk.head.toList != head.toList) = false := by unfold bne; rw [hbq]; rfl
          have HY : Hid (takeR H st head es = (sk, 0)) := by show _ = _; rw [HR.out, HG2.out]; simp only; rw [if_pos hhe]
          have hpw : Hid (wr.heap[p]? = some (.cells #[.slice ao st.all.length cp, .string st.head] 77 (0, 0))) := (HBE.out.block p (Nat.lt_of_lt_of_le hpl HB4.out.size)).trans ((HB4.out.block p hpl).trans HF.out.at_)
          clear hhe hlt
          go_wp2_with (refine wpList_store_row rfl 75 (.tmp 69) (.tmp 67) rfl p #[.slice ak sk.all.length ck, .string sk.head] rfl rfl 77 #[.slice ao st.all.length cp, .string st.head] hpw.out (by kernel_rfl) (by kernel_rfl) (by kernel_rfl) ?_)
          go_ret
          rw [HY.out]
          have hpX : p < w4.heap.size := Nat.lt_of_lt_of_le hpl HB4.out.size
          have hne : (Value.slice ak sk.all.length ck).ownBlock ≠ some p := fun h => by have := HFK.out.mine.2 p h; omega
          refine ⟨rfl, _, ⟨setRow_heap _ _ _ _ _ _ hpw.out, HFK.out.own.kept (row := some p) ⟨rfl, rfl, rfl, by simp, fun i _ hi => setRow_other _ _ i _ (fun e => hi (by rw [e]))⟩ (Or.inr hne), hne, Or.inl HF.out.mine.1, fun g hg => Or.inr (Nat.le_trans HB4.out.size (HFK.out.mine.2 g hg))⟩, ?_⟩
          have hT : Turned (fun k => k = p) w wr := Turned.of_below (HB4.out.trans (HBE.out.mono HB4.out.size))
          refine ⟨hT.os, hT.tape, hT.output, by have := hT.size; simpa using this, fun i hi hns => ?_⟩
          exact (setRow_other _ _ i _ (fun e => hns e)).trans (hT.block i hi hns)
        · have hbq : (sk.head.toList == head.toList) = false := by rw [bytes_beq]; exact decide_eq_false hhe
          have hbq2 : (sk.head.toList != head.toList) = true := by unfold bne; rw [hbq]; rfl
          have HY : Hid (takeR H st head es = (st, 390)) := by show _ = _; rw [HR.out, HG2.out]; simp only; rw [if_neg hhe]
          clear hhe hlt
          go_wp2_with fail
          go_ret
          rw [HY.out]
          exact takeOut_same 390 HF.out (HB4.out.trans (HBE.out.mono HB4.out.size))
/-- Take, whatever the entries. -/
theorem take_cap {H : ByteArray → ByteArray} (hS : SumLaw H) (S : Nat → Prop) (p : Nat) (st : Fd.State) (v : Value) (head : ByteArray) (es : List Fd.Ent) (eo : Option Addr) (cap : Nat) (w : World) (hf : FeedIn S p 77 st v w) (hfit : es.length ≤ cap ∧ cap ≤ maxLen) (hc : EntsAt w eo es)
    (hl : st.all.length + es.length ≤ 1000000) (hh : st.head.size ≤ 32) :
    Calls Try.prog 36 #[.pointer (some ⟨p, 0, none⟩), .string head, .slice eo es.length cap] w (TakeOut S p 77 w (takeR H st head es)) := by
  by_cases h : es.length ≤ restOf st.all.length es
  · unfold takeR
    rw [if_pos h]
    exact take_none S p st v head es eo cap w hf (by omega) hc h
  · exact take_rest hS S p st v head es eo cap (restOf st.all.length es) w hf hfit hc rfl (by omega) hl hh
theorem take_any {H : ByteArray → ByteArray} (hS : SumLaw H) (S : Nat → Prop) (p : Nat) (st : Fd.State) (v : Value) (head : ByteArray) (es : List Fd.Ent) (eo : Option Addr) (cap : Nat) (w : World) (hf : FeedIn S p 77 st v w) (hfit : EntsFit es cap) (hc : EntsAt w eo es)
    (hl : st.all.length + es.length ≤ 1000000) (hh : st.head.size ≤ 32) :
    Calls Try.prog 36 #[.pointer (some ⟨p, 0, none⟩), .string head, .slice eo es.length cap] w (TakeOut S p 77 w (takeR H st head es)) :=
  take_cap hS S p st v head es eo cap w hf ⟨hfit.1, hfit.2.1⟩ hc hl hh
end Go.Proofs.Ytbajgpbekanodaa
