/- The walks over feed's list.next, New, Len, Head. -/
import Derived.Test.YtbajgpbekanodaaFeedPush
namespace Go.Proofs.Ytbajgpbekanodaa
open Go.RowKit

set_option maxRecDepth 100000 in
set_option maxHeartbeats 2000000 in
theorem next_any (bd h : ByteArray) (p n cp : Nat) (ao : Option Addr) (t : TypeId) (w : World) (hp : w.heap[p]? = some (.cells #[.slice ao n cp, .string h] t (0, 0))) (hn : n ≤ 1000000) :
    Calls Try.prog 67 #[.pointer (some ⟨p, 0, none⟩), .string bd] w fun e w' => e = .returned (.agg #[.int .i64 ((n : Int) + 1), .string h, .string bd]) ∧ Below w.heap.size w w' := by
  have hpl : p < w.heap.size := (Array.getElem?_eq_some_iff.1 hp).1
  have q1 : IntKind.i64.wrap ((n : Int) + 1) = (n : Int) + 1 := IntWalk.i64_in _ ⟨by omega, by omega⟩
  go_enter Try.func67, Try.ntmps67
  go_upto_region 1 with fail
  refine name_world (fun w3 => w3.heap[p]? = some (.cells #[.slice ao n cp, .string h] t (0, 0)) ∧ (∃ cs, w3.heap[w.heap.size]? = some (.cells cs 82 (0, 0)) ∧ cs.size = 3) ∧ Below w.heap.size w w3) ⟨?_, ⟨_, heap_alloc_new w _, by kernel_rfl⟩, (Below.refl _ w).alloc (Nat.le_refl _) _⟩ ?_
  · exact (((Below.refl w.heap.size w).alloc (Nat.le_refl _) _).block p hpl).trans hp
  rintro w3 ⟨hp3, ⟨cs, hD, hcs⟩, hb3⟩
  have hc0 : w3.cell? ⟨p, 0, none⟩ = some (.slice ao n cp) := by simp [World.cell?, hp3]
  have hc1 : w3.cell? ⟨p, 1, none⟩ = some (.string h) := by simp [World.cell?, hp3]
  have HB3 := Lib.hid hb3
  have HD := Lib.hid hD
  clear hp hp3 hb3 hD hpl
  refine wp_region_tail 12 (R := fun qi w' v => v = [Value.pointer (some ⟨p, 0, none⟩), .pointer (some ⟨p, 0, none⟩), .pointer (some ⟨p, 0, none⟩), .slice ao n cp, .int .i64 (n : Int), .int .i64 ((n : Int) + 1), .pointer (some ⟨p, 0, none⟩), .pointer (some ⟨p, 0, none⟩), .pointer (some ⟨p, 1, none⟩), .string h, .string bd, .agg #[.int .i64 ((n : Int) + 1), .string h, .string bd]].getD qi undef)
    (by kernel_rfl) (by kernel_rfl) (by kernel_rfl) (of_decide_eq_true (by kernel_rfl)) (by kernel_rfl) (by kernel_rfl) (by kernel_rfl) (by kernel_rfl) ?hRR (by kernel_rfl) (steps_of ?hs) ?hd
  case hRR =>
    intro qi w1 w2 v hb hv
    exact hv
  case hs =>
    refine ⟨?_, ?_, ?_, ?_, ?_, ?_, ?_, ?_, ?_, ?_, ?_, ?_, trivial⟩
    · refine stepOk_value rfl fun a w5 ht => ?_
      have e0 : a.tmps[0]?.getD undef = .pointer (some ⟨p, 0, none⟩) := ht.old' 0 (.pointer (some ⟨p, 0, none⟩)) (by kernel_rfl) rfl
      exact ⟨Value.pointer (some ⟨p, 0, none⟩), w5, by go_simp, Below.refl _ _, rfl⟩
    · refine stepOk_value rfl fun a w5 ht => ?_
      have e5 : a.tmps[5]?.getD undef = Value.pointer (some ⟨p, 0, none⟩) := ht.dep' 0 5 (by kernel_rfl) rfl
      exact ⟨.pointer (some ⟨p, 0, none⟩), w5, by go_simp, Below.refl _ _, rfl⟩
    · refine stepOk_value rfl fun a w5 ht => ?_
      have e6 : a.tmps[6]?.getD undef = .pointer (some ⟨p, 0, none⟩) := ht.dep' 1 6 (by kernel_rfl) rfl
      exact ⟨.pointer (some ⟨p, 0, none⟩), w5, by go_simp, Below.refl _ _, rfl⟩
    · refine stepOk_value rfl fun a w5 ht => ?_
      have e7 : a.tmps[7]?.getD undef = .pointer (some ⟨p, 0, none⟩) := ht.dep' 2 7 (by kernel_rfl) rfl
      have hc := (ht.below.cell (p := ⟨p, 0, none⟩) (World.block_lt_of_cell? _ _ hc0)).trans hc0
      exact ⟨.slice ao n cp, w5, by go_simp, Below.refl _ _, rfl⟩
    · refine stepOk_value rfl fun a w5 ht => ?_
      have e8 : a.tmps[8]?.getD undef = .slice ao n cp := ht.dep' 3 8 (by kernel_rfl) rfl
      exact ⟨.int .i64 (n : Int), w5, by go_simp, Below.refl _ _, rfl⟩
    · refine stepOk_value rfl fun a w5 ht => ?_
      have e9 : a.tmps[9]?.getD undef = .int .i64 (n : Int) := ht.dep' 4 9 (by kernel_rfl) rfl
      exact ⟨.int .i64 ((n : Int) + 1), w5, by go_simp, Below.refl _ _, rfl⟩
    · refine stepOk_value rfl fun a w5 ht => ?_
      have e0 : a.tmps[0]?.getD undef = .pointer (some ⟨p, 0, none⟩) := ht.old' 0 (.pointer (some ⟨p, 0, none⟩)) (by kernel_rfl) rfl
      exact ⟨.pointer (some ⟨p, 0, none⟩), w5, by go_simp, Below.refl _ _, rfl⟩
    · refine stepOk_value rfl fun a w5 ht => ?_
      have e11 : a.tmps[11]?.getD undef = .pointer (some ⟨p, 0, none⟩) := ht.dep' 6 11 (by kernel_rfl) rfl
      exact ⟨.pointer (some ⟨p, 0, none⟩), w5, by go_simp, Below.refl _ _, rfl⟩
    · refine stepOk_value rfl fun a w5 ht => ?_
      have e12 : a.tmps[12]?.getD undef = .pointer (some ⟨p, 0, none⟩) := ht.dep' 7 12 (by kernel_rfl) rfl
      exact ⟨.pointer (some ⟨p, 1, none⟩), w5, by go_simp, Below.refl _ _, rfl⟩
    · refine stepOk_value rfl fun a w5 ht => ?_
      have e13 : a.tmps[13]?.getD undef = .pointer (some ⟨p, 1, none⟩) := ht.dep' 8 13 (by kernel_rfl) rfl
      have hc := (ht.below.cell (p := ⟨p, 1, none⟩) (World.block_lt_of_cell? _ _ hc1)).trans hc1
      exact ⟨.string h, w5, by go_simp, Below.refl _ _, rfl⟩
    · refine stepOk_value rfl fun a w5 ht => ?_
      have e1 : a.tmps[1]?.getD undef = .string bd := ht.old' 1 (.string bd) (by kernel_rfl) rfl
      exact ⟨.string bd, w5, by go_simp, Below.refl _ _, rfl⟩
    · refine stepOk_value rfl fun a w5 ht => ?_
      have e10 : a.tmps[10]?.getD undef = .int .i64 ((n : Int) + 1) := ht.dep' 5 10 (by kernel_rfl) rfl
      have e14 : a.tmps[14]?.getD undef = .string h := ht.dep' 9 14 (by kernel_rfl) rfl
      have e15 : a.tmps[15]?.getD undef = .string bd := ht.dep' 10 15 (by kernel_rfl) rfl
      exact ⟨.agg #[.int .i64 ((n : Int) + 1), .string h, .string bd], w5, by go_simp, Below.refl _ _, rfl⟩
  case hd =>
    intro vs w8 hl hb8 hvs
    have hl : vs.length = 12 := hl
    obtain ⟨v0, r0, rfl, l0⟩ := uncons vs hl
    obtain ⟨v1, r1, rfl, l1⟩ := uncons r0 l0
    obtain ⟨v2, r2, rfl, l2⟩ := uncons r1 l1
    obtain ⟨v3, r3, rfl, l3⟩ := uncons r2 l2
    obtain ⟨v4, r4, rfl, l4⟩ := uncons r3 l3
    obtain ⟨v5, r5, rfl, l5⟩ := uncons r4 l4
    obtain ⟨v6, r6, rfl, l6⟩ := uncons r5 l5
    obtain ⟨v7, r7, rfl, l7⟩ := uncons r6 l6
    obtain ⟨v8, r8, rfl, l8⟩ := uncons r7 l7
    obtain ⟨v9, r9, rfl, l9⟩ := uncons r8 l8
    obtain ⟨v10, r10, rfl, l10⟩ := uncons r9 l9
    obtain ⟨v11, r11, rfl, l11⟩ := uncons r10 l10
    obtain rfl := List.eq_nil_of_length_eq_zero l11
    have h11 : v11 = .agg #[.int .i64 ((n : Int) + 1), .string h, .string bd] := hvs 11 (by decide)
    subst h11
    clear hvs
    simp only [puts, List.map, List.take_succ_cons, List.take_zero, List.drop_succ_cons, List.drop_zero, go_sem, List.setIfInBounds_toArray, List.set_cons_succ, List.set_cons_zero]
    have hD8 := (hb8.block w.heap.size (Array.getElem?_eq_some_iff.1 HD.out).1).trans HD.out
    have HB8 : Hid (Below w.heap.size w w8) := HB3.out.trans (hb8.mono HB3.out.size)
    have HD8 := Lib.hid hD8
    clear HB3 HD hc0 hc1 hb8 hD8
    go_wp2_with (refine wpList_store_row rfl 82 (.tmp 4) (.tmp 16) rfl w.heap.size #[.int .i64 ((n : Int) + 1), .string h, .string bd] rfl rfl 82 cs HD8.out (by kernel_rfl) (by rw [hcs]; kernel_rfl) (by kernel_rfl) ?_)
    exact bodyPost_ret (results_cell_row rfl _ _ w.heap.size 82 #[.int .i64 ((n : Int) + 1), .string h, .string bd] (0, 0) _ rfl (setRow_heap _ _ _ _ _ _ HD8.out) Try.underlying82 rfl (by kernel_rfl)) rfl ⟨rfl, HB8.out.trans (below_setRow _ _ _ _ (Nat.le_refl _))⟩

/-- A feed in memory, its blocks in S. -/
structure Fd.State where
  all : List Fd.Ent
  head : ByteArray
structure FeedIn (S : Nat → Prop) (p : Nat) (t : TypeId) (st : Fd.State) (v : Value) (w : World) : Prop where
  at_ : w.heap[p]? = some (.cells #[v, .string st.head] t (0, 0))
  own : w.ownsRow 0 82 3 v st.all.length (Fd.flat st.all)
  ne : v.ownBlock ≠ some p
  mine : S p ∧ ∀ k, v.ownBlock = some k → S k
theorem FeedIn.lt {S : Nat → Prop} {p : Nat} {t : TypeId} {st : Fd.State} {v : Value} {w : World} (h : FeedIn S p t st v w) : p < w.heap.size := (Array.getElem?_eq_some_iff.1 h.at_).1
theorem FeedIn.form {S : Nat → Prop} {p : Nat} {t : TypeId} {st : Fd.State} {v : Value} {w : World} (h : FeedIn S p t st v w) : ∃ ao cp, v = .slice ao st.all.length cp ∧ EntsAt w ao st.all ∧ st.all.length ≤ cp ∧ cp ≤ maxLen := entsAt_owns h.own
/-- What turns others' blocks leaves a feed. -/
theorem FeedIn.turned {S T : Nat → Prop} {p : Nat} {t : TypeId} {st : Fd.State} {v : Value} {w w' : World} (h : FeedIn S p t st v w) (ht : Turned T w w') (hd : ∀ k, S k → k < w.heap.size → ¬ T k) : FeedIn S p t st v w' := by
  refine ⟨(ht.block p h.lt (hd p h.mine.1 h.lt)).trans h.at_, ⟨h.own.1, ?_⟩, h.ne, h.mine⟩
  rcases h.own.2 with hn | ⟨g, cap, cur, rfl, hb, hg, rest⟩
  · exact .inl hn
  · refine .inr ⟨g, cap, cur, rfl, hb, ?_, rest⟩
    have hlt := (Array.getElem?_eq_some_iff.1 hg).1
    exact (ht.block g hlt (hd g (h.mine.2 g rfl) hlt)).trans hg
theorem Turned.weak {S T : Nat → Prop} {a b : World} (h : Turned S a b) (hs : ∀ k, k < a.heap.size → S k → T k) : Turned T a b := ⟨h.os, h.tape, h.output, h.size, fun k hk ht => h.block k hk (fun hk2 => ht (hs k hk hk2))⟩
theorem Turned.below {S : Nat → Prop} {B : Nat} {a b : World} (h : Turned S a b) (hs : ∀ k, S k → B ≤ k) (hB : B ≤ a.heap.size) : Below B a b :=
  ⟨h.os, h.tape, h.output, by have := h.size; omega, fun k hk => h.block k (by omega) (fun hk2 => by have := hs k hk2; omega)⟩
/-- One turn behind another, the second one's blocks among the first one's, or new. -/
theorem Turned.andThen {S T : Nat → Prop} {a b c : World} (h : Turned S a b) (k : Turned T b c) (hs : ∀ i, T i → S i ∨ a.heap.size ≤ i) : Turned S a c := by
  refine ⟨k.os.trans h.os, k.tape.trans h.tape, k.output.trans h.output, Nat.le_trans h.size k.size, fun i hi hn => ?_⟩
  refine (k.block i (Nat.lt_of_lt_of_le hi h.size) fun ht => ?_).trans (h.block i hi hn)
  rcases hs i ht with h1 | h1
  · exact hn h1
  · omega
def Fd.State.push (H : ByteArray → ByteArray) (st : Fd.State) (e : Fd.Ent) : Fd.State := ⟨st.all ++ [e], H e.text⟩
def Fd.State.next (st : Fd.State) (b : ByteArray) : Fd.Ent := ⟨(st.all.length : Int) + 1, st.head, b⟩
/-- What a push leaves. -/
theorem push_any {H : ByteArray → ByteArray} (hS : SumLaw H) (e : Fd.Ent) (he : e.ok) (S : Nat → Prop) (p : Nat) (t : TypeId) (st : Fd.State) (v : Value) (w : World) (hf : FeedIn S p t st v w) (hn : st.all.length ≤ 1000000) :
    Calls Try.prog 69 #[.pointer (some ⟨p, 0, none⟩), e.val] w fun r w' => r = .returned (.tuple #[]) ∧ ∃ v', FeedIn (fun k => S k ∨ w.heap.size ≤ k) p t (st.push H e) v' w' ∧ Turned S w w' := by
  have hC : Hid (∀ w, Calls Try.prog 49 #[.agg #[.int .i64 e.seq, .string e.prev, .string e.body]] w fun r w' => r = .returned (.string (H e.text)) ∧ Below w.heap.size w w') := fun w => feedHash_any hS e he w
  refine (push_raw e.prev e.body (H e.text) st.head e.seq p 0 t v st.all.length (Fd.flat st.all) w hf.at_ (Nat.zero_le _) hf.own hf.ne hn hC).mono fun r w' h => ?_
  obtain ⟨h1, v', h2, h3, h4, h5, h6⟩ := h
  refine ⟨h1, v', ⟨h2, ?_, h4, ⟨Or.inl hf.mine.1, fun k hk => ?_⟩⟩, h6.weak fun k _ hk => ?_⟩
  · show World.ownsRow _ _ _ _ _ (st.all ++ [e]).length (Fd.flat (st.all ++ [e]))
    rw [List.length_append, Fd.flat_append, Fd.flat_one]
    exact h3
  · rcases h5 k hk with h | h
    · exact Or.inl (hf.mine.2 k h)
    · exact Or.inr h
  · rcases hk with rfl | hk
    · exact hf.mine.1
    · exact hf.mine.2 k hk

set_option maxRecDepth 100000 in
set_option maxHeartbeats 1000000 in
theorem new_any (w : World) :
    Calls Try.prog 41 #[] w fun e w' => e = .returned (.pointer (some ⟨w.heap.size, 0, none⟩)) ∧ FeedIn (fun k => w.heap.size ≤ k) w.heap.size 77 ⟨[], ByteArray.empty⟩ (.slice none 0 0) w' ∧ Below w.heap.size w w' := by
  go_enter Try.func41, Try.ntmps41
  go_wp2_with fail
  go_ret
  exact ⟨rfl, ⟨heap_alloc_new w _, World.ownsRow_nil _ _ _ _, (fun h => by cases h), Nat.le_refl _, fun k hk => by cases hk⟩, (Below.refl _ _).alloc (Nat.le_refl _) _⟩
set_option maxRecDepth 100000 in
set_option maxHeartbeats 1000000 in
theorem len_any (p n cp : Nat) (ao : Option Addr) (h : ByteArray) (t : TypeId) (w : World) (hp : w.heap[p]? = some (.cells #[.slice ao n cp, .string h] t (0, 0))) :
    Calls Try.prog 45 #[.pointer (some ⟨p, 0, none⟩)] w fun e w' => e = .returned (.int .i64 (n : Int)) ∧ w' = w := by
  have hc0 : w.cell? ⟨p, 0, none⟩ = some (.slice ao n cp) := by simp [World.cell?, hp]
  clear hp
  go_enter Try.func45, Try.ntmps45
  go_wp2_with fail
  go_ret
  exact ⟨rfl, rfl⟩
set_option maxRecDepth 100000 in
set_option maxHeartbeats 1000000 in
theorem head_any (p : Nat) (v : Value) (h : ByteArray) (t : TypeId) (w : World) (hp : w.heap[p]? = some (.cells #[v, .string h] t (0, 0))) :
    Calls Try.prog 37 #[.pointer (some ⟨p, 0, none⟩)] w fun e w' => e = .returned (.string h) ∧ w' = w := by
  have hc1 : w.cell? ⟨p, 1, none⟩ = some (.string h) := by simp [World.cell?, hp]
  clear hp
  go_enter Try.func37, Try.ntmps37
  go_wp2_with fail
  go_ret
  exact ⟨rfl, rfl⟩
end Go.Proofs.Ytbajgpbekanodaa
