/- A feed and the document's feed in memory, side by side, and a variable's block beside both. -/
import Derived.Test.YtbajgpbekanodaaFeedPlayT
import Derived.Test.YtbajgpbekanodaaFeedActs
import Derived.Test.YtbajgpbekanodaaFeedAwake
import Derived.Test.YtbajgpbekanodaaDigRefSum
namespace Go.Proofs.Ytbajgpbekanodaa
open Go.RowKit

structure Pair (X A p q : Nat) (st : Fd.State) (all : List Fd.Ent) (w : World) : Prop where
  both : ∃ (v u : Value) (S T : Nat → Prop), FeedIn S p 77 st v w ∧ RefIn T q all u w ∧ (∀ k, S k → k < w.heap.size) ∧ (∀ k, T k → k < w.heap.size) ∧ (∀ k, S k → ¬ T k) ∧ (∀ k, S k → X ≤ k) ∧ (∀ k, T k → X ≤ k) ∧ ¬ S A ∧ ¬ T A
  low : X ≤ w.heap.size
theorem FeedIn.exactly {S : Nat → Prop} {p : Nat} {t : TypeId} {st : Fd.State} {v : Value} {w : World} (h : FeedIn S p t st v w) : FeedIn (fun k => S k ∧ k < w.heap.size) p t st v w :=
  h.reS ⟨h.mine.1, h.lt⟩ fun k hk => ⟨h.mine.2 k hk, (h.own.lt k hk).2⟩
theorem RefIn.exactly {T : Nat → Prop} {q : Nat} {es : List Fd.Ent} {v : Value} {w : World} (h : RefIn T q es v w) : RefIn (fun k => T k ∧ k < w.heap.size) q es v w :=
  ⟨h.at_, h.own, h.ne, ⟨h.mine.1, h.lt⟩, fun k hk => ⟨h.mine.2 k hk, (h.own.lt k hk).2⟩⟩
theorem Pair.kept {X A p q : Nat} {st : Fd.State} {all : List Fd.Ent} {w w' : World} (h : Pair X A p q st all w) (hb : Below w.heap.size w w') : Pair X A p q st all w' := by
  obtain ⟨v, u, S, T, h1, h2, h3, h4, h5⟩ := h.both
  exact ⟨⟨v, u, S, T, h1.turned (Turned.of_below (S := fun _ => False) hb) (fun _ _ _ h => h), h2.below hb, fun k hk => Nat.lt_of_lt_of_le (h3 k hk) hb.size, fun k hk => Nat.lt_of_lt_of_le (h4 k hk) hb.size, h5⟩, Nat.le_trans h.low hb.size⟩
/-- Another variable's block, made behind both. -/
theorem Pair.other {X A B p q : Nat} {st : Fd.State} {all : List Fd.Ent} {w w' : World} (h : Pair X A p q st all w) (hB : w.heap.size ≤ B) (hb : Below w.heap.size w w') : Pair X B p q st all w' := by
  obtain ⟨v, u, S, T, h1, h2, h3, h4, h5, h6, h7, _⟩ := h.both
  exact ⟨⟨v, u, S, T, h1.turned (Turned.of_below (S := fun _ => False) hb) (fun _ _ _ h => h), h2.below hb, fun k hk => Nat.lt_of_lt_of_le (h3 k hk) hb.size, fun k hk => Nat.lt_of_lt_of_le (h4 k hk) hb.size, h5, h6, h7, fun hk => by have := h3 B hk; omega, fun hk => by have := h4 B hk; omega⟩, Nat.le_trans h.low hb.size⟩
theorem Pair.left {X A p q : Nat} {st : Fd.State} {all : List Fd.Ent} {w : World} (h : Pair X A p q st all w) : ∃ S v, FeedIn S p 77 st v w := by
  obtain ⟨v, _, S, _, h1, _⟩ := h.both
  exact ⟨S, v, h1⟩
theorem Pair.right {X A p q : Nat} {st : Fd.State} {all : List Fd.Ent} {w : World} (h : Pair X A p q st all w) : ∃ T u, RefIn T q all u w := by
  obtain ⟨_, u, _, T, _, h2, _⟩ := h.both
  exact ⟨T, u, h2⟩
/-- What a call that turns one of them leaves. -/
structure Left (X A : Nat) (w w' : World) : Prop where
  low : Below X w w'
  cells : ∀ o, w'.cell? ⟨A, o, none⟩ = w.cell? ⟨A, o, none⟩
  size : w.heap.size ≤ w'.heap.size
theorem Left.of_turned {X A : Nat} {S : Nat → Prop} {w w' : World} (h : Turned S w w') (hA : A < w.heap.size) (hS : ¬ S A) (hX : ∀ k, S k → X ≤ k) (hl : X ≤ w.heap.size) : Left X A w w' :=
  ⟨h.below hX hl, fun _ => h.cell hA hS, h.size⟩
theorem Left.of_below {X A : Nat} {w w' : World} (h : Below w.heap.size w w') (hA : A < w.heap.size) (hl : X ≤ w.heap.size) : Left X A w w' :=
  ⟨h.mono hl, fun o => h.cell (p := ⟨A, o, none⟩) hA, h.size⟩
theorem pair_take1 {H : ByteArray → ByteArray} (hS : SumLaw H) {X A p q : Nat} {st : Fd.State} {all : List Fd.Ent} {w : World} (h : Pair X A p q st all w) (hA : A < w.heap.size) (head : ByteArray) (es : List Fd.Ent) (eo : Option Addr) (cap : Nat) (hfit : es.length ≤ cap ∧ cap ≤ maxLen) (hc : EntsAt w eo es) (hl : st.all.length + es.length ≤ 1000000) (hh : st.head.size ≤ 32) :
    Calls Try.prog 36 #[.pointer (some ⟨p, 0, none⟩), .string head, .slice eo es.length cap] w fun e w' => e = .returned (.int .i64 (takeR H st head es).2) ∧ Pair X A p q (takeR H st head es).1 all w' ∧ Left X A w w' := by
  obtain ⟨v, u, S, T, h1, h2, h3, h4, h5, h6, h7, h8, h9⟩ := h.both
  refine (take_cap hS S p st v head es eo cap w h1 hfit hc hl hh).mono ?_
  rintro e w' ⟨rfl, v', hf, ht⟩
  have hAp : ¬ A = p := fun h => h8 (by rw [h]; exact h1.mine.1)
  refine ⟨rfl, ⟨⟨v', u, _, T, hf.exactly, h2.turned ht (fun k hk _ hq => h5 k (by rw [hq]; exact h1.mine.1) hk), fun k hk => hk.2, fun k hk => Nat.lt_of_lt_of_le (h4 k hk) ht.size, fun k hk ht2 => ?_, fun k hk => ?_, h7, fun hk => ?_, h9⟩, Nat.le_trans h.low ht.size⟩, Left.of_turned ht hA hAp (fun k hk => by rw [hk]; exact h6 p h1.mine.1) h.low⟩
  · rcases hk.1 with h' | h'
    · exact h5 k h' ht2
    · have := h4 k ht2; omega
  · rcases hk.1 with h' | h'
    · exact h6 k h'
    · exact Nat.le_trans h.low h'
  · rcases hk.1 with h' | h'
    · exact h8 h'
    · omega
theorem pair_take2 {H : ByteArray → ByteArray} (hR : RefLaw H) {X A p q : Nat} {st st1 : Fd.State} {w : World} (h : Pair X A p q st1 st.all w) (hA : A < w.heap.size) (head : ByteArray) (es : List Fd.Ent) (eo : Option Addr) (cap : Nat) (hch : Chained H st) (hok : ∀ e ∈ st.all, e.ok) (heok : ∀ e ∈ es, e.ok) (hl : st.all.length + es.length ≤ 100000) (hc : EntsAt w eo es) (hfit : es.length ≤ cap ∧ cap ≤ maxLen) :
    Calls Try.prog 42 #[.pointer (some ⟨q, 0, none⟩), .string head, .slice eo es.length cap] w fun e w' => e = .returned (.int .i64 (takeR H st head es).2) ∧ Pair X A p q st1 (takeR H st head es).1.all w' ∧ Left X A w w' := by
  obtain ⟨v, u, S, T, h1, h2, h3, h4, h5, h6, h7, h8, h9⟩ := h.both
  obtain ⟨t1, t2⟩ := takeD_is hch head es
  rw [t1, t2]
  refine (refTake_any hR T q st u head es eo cap w hch hok heok hl h2 hc hfit).mono ?_
  rintro e w' ⟨rfl, u', hr, ht⟩
  have hAq : ¬ A = q := fun h => h9 (by rw [h]; exact h2.mine.1)
  refine ⟨rfl, ⟨⟨v, u', S, _, h1.turned ht (fun k hk _ hq => h5 k hk (by rw [hq]; exact h2.mine.1)), hr.exactly, fun k hk => Nat.lt_of_lt_of_le (h3 k hk) ht.size, fun k hk => hk.2, fun k hk ht2 => ?_, h6, fun k hk => ?_, h8, fun hk => ?_⟩, Nat.le_trans h.low ht.size⟩, Left.of_turned ht hA hAq (fun k hk => by rw [hk]; exact h7 q h2.mine.1) h.low⟩
  · rcases ht2.1 with h' | h'
    · exact h5 k hk h'
    · have := h3 k hk; omega
  · rcases hk.1 with h' | h'
    · exact h7 k h'
    · exact Nat.le_trans h.low h'
  · rcases hk.1 with h' | h'
    · exact h9 h'
    · omega
theorem pair_add1 {H : ByteArray → ByteArray} (hS : SumLaw H) {X A p q : Nat} {st : Fd.State} {all : List Fd.Ent} {w : World} (h : Pair X A p q st all w) (hA : A < w.heap.size) (l : List ByteArray) (ao : Option Addr) (cap : Nat) (hl : st.all.length + l.length ≤ 1000000) (hh : st.head.size ≤ 32) (hc : StrsAt w ao l)
    (hsep : ∀ b off, ao = some ⟨b, off, none⟩ → 0 < l.length → b < X) (hb : l.any isBig = false) :
    Calls Try.prog 43 #[.pointer (some ⟨p, 0, none⟩), .slice ao l.length cap] w fun e w' => e = .returned (.int .i64 0) ∧ Pair X A p q (st.adds H l) all w' ∧ Left X A w w' := by
  obtain ⟨v, u, S, T, h1, h2, h3, h4, h5, h6, h7, h8, h9⟩ := h.both
  refine (add_any hS l ao cap S p _ st v w hl hh h1 hc (fun b off hb h0 hs => by have := h6 b hs; have := hsep b off hb h0; omega) hb).mono ?_
  rintro e w' ⟨rfl, v', hf, ht⟩
  refine ⟨rfl, ⟨⟨v', u, _, T, hf.exactly, h2.turned ht (fun k hk _ hs => h5 k hs hk), fun k hk => hk.2, fun k hk => Nat.lt_of_lt_of_le (h4 k hk) ht.size, fun k hk ht2 => ?_, fun k hk => ?_, h7, fun hk => ?_, h9⟩, Nat.le_trans h.low ht.size⟩, Left.of_turned ht hA h8 h6 h.low⟩
  · rcases hk.1 with h' | h'
    · exact h5 k h' ht2
    · have := h4 k ht2; omega
  · rcases hk.1 with h' | h'
    · exact h6 k h'
    · exact Nat.le_trans h.low h'
  · rcases hk.1 with h' | h'
    · exact h8 h'
    · omega
theorem pair_add2 {H : ByteArray → ByteArray} (hR : RefLaw H) {X A p q : Nat} {st st1 : Fd.State} {w : World} (h : Pair X A p q st1 st.all w) (hA : A < w.heap.size) (l : List ByteArray) (ao : Option Addr) (cap : Nat) (hch : Chained H st) (hok : ∀ e ∈ st.all, e.ok) (hl : st.all.length + l.length ≤ 100000) (hh : st.head.size ≤ 32) (hc : StrsAt w ao l)
    (hsep : ∀ b off, ao = some ⟨b, off, none⟩ → 0 < l.length → b < X) (hb : l.any isBig = false) :
    Calls Try.prog 44 #[.pointer (some ⟨q, 0, none⟩), .slice ao l.length cap] w fun e w' => e = .returned (.int .i64 0) ∧ Pair X A p q st1 (st.adds H l).all w' ∧ Left X A w w' := by
  obtain ⟨v, u, S, T, h1, h2, h3, h4, h5, h6, h7, h8, h9⟩ := h.both
  refine (refAdd_any hR l ao cap T q st u w hch hok hl hh h2 hc (fun b off hb h0 hs => by have := h7 b hs; have := hsep b off hb h0; omega) hb).mono ?_
  rintro e w' ⟨rfl, u', hr, ht⟩
  refine ⟨rfl, ⟨⟨v, u', S, _, h1.turned ht (fun k hk _ hs => h5 k hk hs), hr.exactly, fun k hk => Nat.lt_of_lt_of_le (h3 k hk) ht.size, fun k hk => hk.2, fun k hk ht2 => ?_, h6, fun k hk => ?_, h8, fun hk => ?_⟩, Nat.le_trans h.low ht.size⟩, Left.of_turned ht hA h9 h7 h.low⟩
  · rcases ht2.1 with h' | h'
    · exact h5 k hk h'
    · have := h3 k hk; omega
  · rcases hk.1 with h' | h'
    · exact h7 k h'
    · exact Nat.le_trans h.low h'
  · rcases hk.1 with h' | h'
    · exact h9 h'
    · omega
/-- What an add does: a state and an answer. -/
def addR (H : ByteArray → ByteArray) (st : Fd.State) (l : List ByteArray) : Fd.State × Int := if l.any isBig = true then (st, 3) else (st.adds H l, 0)
theorem pair_adds1 {H : ByteArray → ByteArray} (hS : SumLaw H) {X A p q : Nat} {st : Fd.State} {all : List Fd.Ent} {w : World} (h : Pair X A p q st all w) (hA : A < w.heap.size) (l : List ByteArray) (ao : Option Addr) (cap : Nat) (hl : st.all.length + l.length ≤ 1000000) (hh : st.head.size ≤ 32) (hc : StrsAt w ao l)
    (hsep : ∀ b off, ao = some ⟨b, off, none⟩ → 0 < l.length → b < X) :
    Calls Try.prog 43 #[.pointer (some ⟨p, 0, none⟩), .slice ao l.length cap] w fun e w' => e = .returned (.int .i64 (addR H st l).2) ∧ Pair X A p q (addR H st l).1 all w' ∧ Left X A w w' := by
  unfold addR
  cases hb : l.any isBig with
  | true =>
    rw [if_pos rfl]
    refine (add_big l ao cap p w (by omega) hc hb).mono ?_
    rintro e w' ⟨rfl, hbl⟩
    exact ⟨rfl, h.kept hbl, Left.of_below hbl hA h.low⟩
  | false =>
    rw [if_neg (by simp)]
    exact pair_add1 hS h hA l ao cap hl hh hc hsep hb
theorem pair_adds2 {H : ByteArray → ByteArray} (hR : RefLaw H) {X A p q : Nat} {st st1 : Fd.State} {w : World} (h : Pair X A p q st1 st.all w) (hA : A < w.heap.size) (l : List ByteArray) (ao : Option Addr) (cap : Nat) (hch : Chained H st) (hok : ∀ e ∈ st.all, e.ok) (hl : st.all.length + l.length ≤ 100000) (hh : st.head.size ≤ 32) (hf : StrsFit l cap) (hc : StrsAt w ao l)
    (hsep : ∀ b off, ao = some ⟨b, off, none⟩ → 0 < l.length → b < X) :
    Calls Try.prog 44 #[.pointer (some ⟨q, 0, none⟩), .slice ao l.length cap] w fun e w' => e = .returned (.int .i64 (addR H st l).2) ∧ Pair X A p q st1 (addR H st l).1.all w' ∧ Left X A w w' := by
  unfold addR
  cases hb : l.any isBig with
  | true =>
    rw [if_pos rfl]
    refine (refAdd_big l ao cap q w (by omega) hf hc hb).mono ?_
    rintro e w' ⟨rfl, hbl⟩
    exact ⟨rfl, h.kept hbl, Left.of_below hbl hA h.low⟩
  | false =>
    rw [if_neg (by simp)]
    exact pair_add2 hR h hA l ao cap hch hok hl hh hc hsep hb
/-- A feed as it comes to be. -/
structure Good (H : ByteArray → ByteArray) (N : Nat) (st : Fd.State) : Prop where
  chained : Chained H st
  ok : ∀ e ∈ st.all, e.ok
  head : st.head.size ≤ 32
  len : st.all.length ≤ N
theorem Good.start (H : ByteArray → ByteArray) : Good H 0 stE := ⟨chained_stE H, (fun e he => by cases he), by show (0 : Nat) ≤ 32; omega, Nat.le_refl _⟩
theorem Good.takes {H : ByteArray → ByteArray} (hH : ∀ s, (H s).size = 32) {N : Nat} {st : Fd.State} (h : Good H N st) (head : ByteArray) (es : List Fd.Ent) (hes : es.length ≤ 300) (hN : N ≤ 100000) : Good H (N + 300) (takeR H st head es).1 := by
  have hl := h.len
  obtain ⟨a, b, c, d, _⟩ := take_ok H hH st head es h.ok h.head (by omega) h.chained
  exact ⟨d, a, c, by omega⟩
theorem Good.adds {H : ByteArray → ByteArray} (hH : ∀ s, (H s).size = 32) {N : Nat} {st : Fd.State} (h : Good H N st) (l : List ByteArray) (hl : l.length ≤ 300) (hN : N ≤ 100000) : Good H (N + 300) (addR H st l).1 := by
  have hln := h.len
  unfold addR
  cases hb : l.any isBig with
  | true => rw [if_pos rfl]; exact ⟨h.chained, h.ok, h.head, by show st.all.length ≤ _; omega⟩
  | false =>
    rw [if_neg (by simp)]
    exact ⟨chained_runs H l st h.chained, adds_ok H hH l st h.ok h.head (by omega) (fun s hs => not_big hb s hs), adds_head H hH l st h.head, by show (st.adds H l).all.length ≤ _; rw [adds_len]; omega⟩
end Go.Proofs.Ytbajgpbekanodaa
namespace Go.Proofs.Ytbajgpbekanodaa
open Go.RowKit

def PlayW (X A p q : Nat) (c0 c1 c2 c3 : Value) (st st1 : Fd.State) (w0 : World) (ph : Nat) (_ _ : Value) (w' : World) : Prop :=
  (w'.cell? ⟨A, 0, none⟩ = some c0 ∧ w'.cell? ⟨A, 1, none⟩ = some c1 ∧ w'.cell? ⟨A, 2, none⟩ = some c2 ∧ w'.cell? ⟨A, 3, none⟩ = some c3) ∧ Below X w0 w' ∧ A < w'.heap.size ∧
  match ph with
  | 0 => Pair X A p q st st.all w'
  | 1 => Pair X A p q st1 st.all w'
  | _ => Pair X A p q st1 st1.all w'

set_option maxRecDepth 100000 in
set_option maxHeartbeats 4000000 in
theorem plays_no (ao : Option Addr) (n cap : Nat) (seq most : Int) (w : World) (C : Calls Try.prog 40 #[.slice ao n cap] w fun e w' => e = .returned (.bool false) ∧ Below w.heap.size w w') :
    Calls Try.prog 11 #[.slice ao n cap, .int .i64 seq, .int .i64 most] w fun e w' => e = .returned (.bool true) ∧ Below w.heap.size w w' := by
  have HC := Lib.hid C
  clear C
  go_enter Try.func11, Try.ntmps11
  go_wp2_with fail
  refine HC.out.mono ?_
  rintro e w1 ⟨rfl, hb1⟩
  have HB1 := Lib.hid hb1
  clear hb1 HC
  go_wp2_with fail
  refine (awake39_any w1).mono ?_
  rintro e w2 ⟨rfl, hb2⟩
  have HB2 : Hid (Below w.heap.size w w2) := HB1.out.trans (hb2.mono HB1.out.size)
  clear hb2 HB1
  go_wp2_with fail
  go_ret
  exact ⟨rfl, HB2.out⟩

set_option maxRecDepth 100000 in
set_option maxHeartbeats 8000000 in
theorem plays_yes {H : ByteArray → ByteArray} (hS : SumLaw H) (hR : RefLaw H) (xs : List Fd.Act) (ao : Option Addr) (cap : Nat) (seq most : Int) (w : World) (hc : ActsAt w ao xs) (hf : fewA 0 xs = true)
    (C : Calls Try.prog 40 #[.slice ao xs.length cap] w fun e w' => e = .returned (.bool true) ∧ Below w.heap.size w w') :
    Calls Try.prog 11 #[.slice ao xs.length cap, .int .i64 seq, .int .i64 most] w fun e w' => e = .returned (.bool true) ∧ Below w.heap.size w w' := by
  have HC := Lib.hid C
  obtain ⟨hao, hal⟩ := fewA_ok hf
  have HACT := Lib.hid hc
  have HAOK := Lib.hid hao
  obtain ⟨n, hn⟩ : ∃ n, n = xs.length := ⟨_, rfl⟩
  have HN := Lib.hid hn
  have hn30 : (n : Int) ≤ 30 := by
    rcases hal with h | h
    · rw [hn, h]; simp
    · omega
  rw [← hn] at HC ⊢
  clear C hc hf hao hal hn
  go_enter Try.func11, Try.ntmps11
  go_wp2_with fail
  refine HC.out.mono ?_
  rintro e w1 ⟨rfl, hb1⟩
  have HB1 := Lib.hid hb1
  clear hb1 HC
  go_wp2_with fail
  refine (new_any _).mono ?_
  rintro e w2 ⟨rfl, hf2, hb2⟩
  have HF2 := Lib.hid hf2
  have HB2 : Hid (Below w.heap.size w w2) := HB1.out.trans (hb2.mono HB1.out.size)
  have HX1 : Hid (w.heap.size ≤ w1.heap.size) := HB1.out.size
  clear hf2 hb2 HB1
  generalize hp : w1.heap.size = p at *
  go_upto_region 5 with fail
  refine name_world (fun w3 => Pair w.heap.size (w2.heap.size + 1) p w2.heap.size stE [] w3 ∧ Below w.heap.size w w3) ?_ ?_
  · have hb3 : Below w2.heap.size w2 (w2.alloc (.cells #[.slice none 0 0] 65)) := (Below.refl _ w2).alloc (Nat.le_refl _) _
    have hf3 := (HF2.out.exactly).turned (Turned.of_below (S := fun _ => False) hb3) (fun _ _ _ h => h)
    refine ⟨⟨⟨_, .slice none 0 0, _, fun k => k = w2.heap.size, hf3, ⟨heap_alloc_new w2 _, World.ownsRow_nil _ _ _ _, (fun h => by cases h), rfl, fun k hk => by cases hk⟩, fun k hk => Nat.lt_of_lt_of_le hk.2 hb3.size, fun k hk => by subst hk; simp, fun k hk ht => by have h1 := hk.2; omega, fun k hk => Nat.le_trans HX1.out hk.1, fun k hk => by have h1 := HF2.out.lt; have h2 := HX1.out; omega, fun hk => by have h1 := hk.2; omega, fun hk => by omega⟩, ?_⟩, HB2.out.trans (hb3.mono HB2.out.size)⟩
    have h1 := HF2.out.lt; have h2 := HX1.out; have h3 := hb3.size
    omega
  rintro w3 ⟨hp3, hb3⟩
  have HG3 : Hid (∃ st A, Good H (300 * 0) st ∧ Pair w.heap.size A p w2.heap.size st st.all w3) := ⟨stE, _, Good.start H, hp3⟩
  have HB3 := Lib.hid hb3
  clear hp3 hb3 HF2 HB2 HX1 hp
  generalize w2.heap.size = q at *
  obtain ⟨X, hX⟩ : ∃ X, X = w.heap.size := ⟨_, rfl⟩
  have HX := Lib.hid hX
  rw [← hX] at HG3 HB3
  clear hX
  go_wp2_with fail
  go_loopw [9] (fun i wr => ∃ k : Nat, (k : Int) ≤ (n : Int) ∧ i = .int .i64 (k : Int) ∧ Hid (∃ st A, Good H (300 * k) st ∧ Pair X A p q st st.all wr) ∧ Hid (Below X w wr)) (fun i _ => n - (intOf i).toNat)
  case atStart => exact ⟨0, by omega, rfl, HG3, HB3⟩
  case round =>
    clear HG3 HB3
    obtain ⟨k, hk, rfl, HG, HBE⟩ := hrel
    have hk0 : (0 : Int) ≤ (k : Int) := Int.natCast_nonneg _
    by_cases hlt : (k : Int) < (n : Int)
    · have hkl : k < xs.length := by rw [← HN.out]; omega
      obtain ⟨b, off, rfl, hbl, hact⟩ := HACT.out k hkl
      have hmem : xs.getD k Act0 ∈ xs := by rw [show xs.getD k Act0 = xs[k] by simp [List.getD, hkl]]; exact List.getElem_mem hkl
      have HAO := Lib.hid (HAOK.out _ hmem)
      generalize xs.getD k Act0 = x at *
      obtain ⟨bo, bc, eo, ec, ⟨c0, c1, c2, c3⟩, hsf, hsa, hea, hem, hel, hem2⟩ := hact
      have hbX : b < X := by rw [HX.out]; exact hbl
      have c0 := (HBE.out.cell (p := ⟨b, off + k * 4, none⟩) hbX).trans c0
      have c1 := (HBE.out.cell (p := ⟨b, off + k * 4 + 1, none⟩) hbX).trans c1
      have c2 := (HBE.out.cell (p := ⟨b, off + k * 4 + 2, none⟩) hbX).trans c2
      have c3 := (HBE.out.cell (p := ⟨b, off + k * 4 + 3, none⟩) hbX).trans c3
      obtain ⟨st, A0, hgood, hpair⟩ := HG.out
      have HGD := Lib.hid hgood
      have HSEP : Hid (∀ b' off', bo = some ⟨b', off', none⟩ → 0 < x.bodies.length → b' < X) := fun b' off' h1 h2 => by
        obtain ⟨b2, o2, h3, h4, _⟩ := hsa 0 h2
        rw [h1] at h3
        cases h3
        rw [HX.out]; exact h4
      have HSA := Lib.hid hsa
      have HSF := Lib.hid hsf
      have HEA := Lib.hid hea
      have HEOK := Lib.hid (few_ok HAO.out.few hem)
      have HEL : Hid (x.entries.length ≤ ec ∧ ec ≤ maxLen) := ⟨hel, hem2⟩
      have HPR := Lib.hid hpair
      have HK30 : Hid (300 * (k + 1) ≤ 9300) := by show _ ≤ _; omega
      obtain ⟨tk, bods, hd, ents⟩ := x
      simp only at c0 c1 c2 c3 HSEP HSA HSF HEA HEOK HEL
      obtain ⟨nb, hnb⟩ : ∃ nb, nb = bods.length := ⟨_, rfl⟩
      obtain ⟨ne, hne⟩ : ∃ ne, ne = ents.length := ⟨_, rfl⟩
      rw [← hnb] at c1
      rw [← hne] at c3
      have HNB := Lib.hid hnb
      have HNE := Lib.hid hne
      clear hkl hbl hmem hsa hsf hea hem hel hem2 hgood hpair hbX hnb hne
      go_upto_region 9 with (refine wpList_store_row rfl 67 (.tmp 10) (.tmp 30) rfl wr.heap.size #[.bool tk, .slice bo nb bc, .string hd, .slice eo ne ec] rfl rfl _ _ (heap_alloc_new _ _) (by kernel_rfl) (by kernel_rfl) (by kernel_rfl) ?_)
      refine name_world (fun w5 => (w5.cell? ⟨wr.heap.size, 0, none⟩ = some (.bool tk) ∧ w5.cell? ⟨wr.heap.size, 1, none⟩ = some (.slice bo nb bc) ∧ w5.cell? ⟨wr.heap.size, 2, none⟩ = some (.string hd) ∧ w5.cell? ⟨wr.heap.size, 3, none⟩ = some (.slice eo ne ec)) ∧ Below wr.heap.size wr w5 ∧ wr.heap.size < w5.heap.size) ?_ ?_
      · have h1 := setRow_heap (wr.alloc (.cells #[.bool false, .slice none 0 0, .string ByteArray.empty, .slice none 0 0] 67)) wr.heap.size _ #[.bool tk, .slice bo nb bc, .string hd, .slice eo ne ec] _ _ (heap_alloc_new wr (.cells #[.bool false, .slice none 0 0, .string ByteArray.empty, .slice none 0 0] 67))
        have hb2 := ((Below.refl wr.heap.size wr).alloc (Nat.le_refl _) (.cells #[.bool false, .slice none 0 0, .string ByteArray.empty, .slice none 0 0] 67)).trans (below_setRow wr.heap.size _ wr.heap.size #[.bool tk, .slice bo nb bc, .string hd, .slice eo ne ec] (Nat.le_refl _))
        exact ⟨⟨(cell_of_row _ _ _ _ _ _ h1).trans rfl, (cell_of_row _ _ _ _ _ _ h1).trans rfl, (cell_of_row _ _ _ _ _ _ h1).trans rfl, (cell_of_row _ _ _ _ _ _ h1).trans rfl⟩, hb2, (Array.getElem?_eq_some_iff.1 h1).1⟩
      rintro w5 ⟨⟨y0, y1, y2, y3⟩, hb5, hA5⟩
      have HP5 := Lib.hid (HPR.out.other (Nat.le_refl _) hb5)
      have HB5 : Hid (Below X w w5) := HBE.out.trans (hb5.mono HPR.out.low)
      have HA5 := Lib.hid hA5
      clear hb5 hA5 HPR HBE c0 c1 c2 c3
      generalize wr.heap.size = A at *
      cases tk with
      | true =>
        have HG1 : Hid (Good H (300 * k + 300) (takeR H st hd ents).1) := HGD.out.takes hS.1 hd ents (by have := HAO.out.len; simp only at this; omega) (by have := HK30.out; omega)
        have CT1 : Hid (∀ w', Pair X A p q st st.all w' → A < w'.heap.size → Below X w w' → Calls Try.prog 36 #[.pointer (some ⟨p, 0, none⟩), .string hd, .slice eo ne ec] w' fun e w'' => e = .returned (.int .i64 (takeR H st hd ents).2) ∧ Pair X A p q (takeR H st hd ents).1 st.all w'' ∧ Left X A w' w'') := fun w' h1 h2 h3 => by
          have h := pair_take1 hS h1 h2 hd ents eo ec HEL.out (HEA.out.kept h3 (by rw [HX.out]; exact Nat.le_refl _)) (by have h4 := HGD.out.len; have h5 := HAO.out.len; have h6 := HK30.out; simp only at h5; omega) HGD.out.head
          rw [← HNE.out] at h
          exact h
        have CT2 : Hid (∀ w', Pair X A p q (takeR H st hd ents).1 st.all w' → A < w'.heap.size → Below X w w' → Calls Try.prog 42 #[.pointer (some ⟨q, 0, none⟩), .string hd, .slice eo ne ec] w' fun e w'' => e = .returned (.int .i64 (takeR H st hd ents).2) ∧ Pair X A p q (takeR H st hd ents).1 (takeR H st hd ents).1.all w'' ∧ Left X A w' w'') := fun w' h1 h2 h3 => by
          have h := pair_take2 hR h1 h2 hd ents eo ec HGD.out.chained HGD.out.ok HEOK.out (by have h4 := HGD.out.len; have h5 := HAO.out.len; have h6 := HK30.out; simp only at h5; omega) (HEA.out.kept h3 (by rw [HX.out]; exact Nat.le_refl _)) HEL.out
          rw [← HNE.out] at h
          exact h
        generalize (takeR H st hd ents).1 = st1 at *
        generalize (takeR H st hd ents).2 = r at *
        have HW0 : Hid (∀ (x y : Value), PlayW X A p q (.bool true) (.slice bo nb bc) (.string hd) (.slice eo ne ec) st st1 w 0 x y w5.drew) := fun x y =>
          ⟨⟨y0, y1, y2, y3⟩, HB5.out.drew, HA5.out, HP5.out.kept ((Below.refl _ w5).drew)⟩
        go_upto_region 11 with fail
        have hW0 := HW0.out
        clear y1 y2 y3 HP5 HB5 HA5 HEOK HEA HEL HSEP HSA HSF HGD HNB HNE HG
        refine wp_region_phase_puts [5, 11] 38 44 5 11 (R := fun qi v => ([] : List Nat).contains qi = true ∨ v = [.pointer (some ⟨p, 0, none⟩), .pointer (some ⟨A, 2, none⟩), .string hd, .pointer (some ⟨A, 3, none⟩), .slice eo ne ec, .int .i64 r, .pointer (some ⟨q, 0, none⟩), .pointer (some ⟨A, 2, none⟩), .string hd, .pointer (some ⟨A, 3, none⟩), .slice eo ne ec, .int .i64 r, .int .i64 r, .int .i64 r].getD qi undef) (W := PlayW X A p q (.bool true) (.slice bo nb bc) (.string hd) (.slice eo ne ec) st st1 w)
          (by kernel_rfl) (by kernel_rfl) (by kernel_rfl) (by kernel_rfl) (by kernel_rfl) rfl rfl (hW0 _ _) (steps_of ⟨?_, ?_, ?_, ?_, ?_, ?_, ?_, ?_, ?_, ?_, ?_, ?_, ?_, ?_, trivial⟩) ?_
        · intro ph a w1 hpo hsp ht hW
          have e7 : a.tmps[7]?.getD undef = .pointer (some ⟨p, 0, none⟩) := ht.old 7 (.pointer (some ⟨p, 0, none⟩)) (by kernel_rfl) rfl
          refine wp_value (v := .pointer (some ⟨p, 0, none⟩)) (w' := w1) (by go_simp) ⟨_, rfl, fun _ _ => Or.inr rfl, ?_⟩
          rw [put_keeps _ _ _ 38 (by decide), put_keeps _ _ _ 44 (by decide)]
          exact hW
        · intro ph a w1 hpo hsp ht hW
          have e10 : a.tmps[10]?.getD undef = .pointer (some ⟨A, 0, none⟩) := ht.old 10 (.pointer (some ⟨A, 0, none⟩)) (by kernel_rfl) rfl
          refine wp_value (v := .pointer (some ⟨A, 2, none⟩)) (w' := w1) (by go_simp) ⟨_, rfl, fun _ _ => Or.inr rfl, ?_⟩
          rw [put_keeps _ _ _ 38 (by decide), put_keeps _ _ _ 44 (by decide)]
          exact hW
        · intro ph a w1 hpo hsp ht hW
          have e34 : a.tmps[34]?.getD undef = .pointer (some ⟨A, 2, none⟩) := dep_valU (ht.dep 1 34 (by kernel_rfl) rfl) (by decide)
          have hc := hW.1.2.2.1
          refine wp_value (v := .string hd) (w' := w1) (by go_simp) ⟨_, rfl, fun _ _ => Or.inr rfl, ?_⟩
          rw [put_keeps _ _ _ 38 (by decide), put_keeps _ _ _ 44 (by decide)]
          exact hW
        · intro ph a w1 hpo hsp ht hW
          have e10 : a.tmps[10]?.getD undef = .pointer (some ⟨A, 0, none⟩) := ht.old 10 (.pointer (some ⟨A, 0, none⟩)) (by kernel_rfl) rfl
          refine wp_value (v := .pointer (some ⟨A, 3, none⟩)) (w' := w1) (by go_simp) ⟨_, rfl, fun _ _ => Or.inr rfl, ?_⟩
          rw [put_keeps _ _ _ 38 (by decide), put_keeps _ _ _ 44 (by decide)]
          exact hW
        · intro ph a w1 hpo hsp ht hW
          have e36 : a.tmps[36]?.getD undef = .pointer (some ⟨A, 3, none⟩) := dep_valU (ht.dep 3 36 (by kernel_rfl) rfl) (by decide)
          have hc := hW.1.2.2.2
          refine wp_value (v := .slice eo ne ec) (w' := w1) (by go_simp) ⟨_, rfl, fun _ _ => Or.inr rfl, ?_⟩
          rw [put_keeps _ _ _ 38 (by decide), put_keeps _ _ _ 44 (by decide)]
          exact hW
        · intro ph a w1 hpo hsp ht hW
          have e33 : a.tmps[33]?.getD undef = .pointer (some ⟨p, 0, none⟩) := dep_valU (ht.dep 0 33 (by kernel_rfl) rfl) (by decide)
          have e35 : a.tmps[35]?.getD undef = .string hd := dep_valU (ht.dep 2 35 (by kernel_rfl) rfl) (by decide)
          have e37 : a.tmps[37]?.getD undef = .slice eo ne ec := dep_valU (ht.dep 4 37 (by kernel_rfl) rfl) (by decide)
          obtain rfl : ph = 0 := by have h := hsp rfl; rcases ph with _ | _ | ph <;> simp_all
          refine wp_calls (f := 36) (args := #[.pointer (some ⟨p, 0, none⟩), .string hd, .slice eo ne ec]) (by go_simp) ((CT1.out w1 hW.2.2.2 hW.2.2.1 hW.2.1).mono ?_)
          rintro e w2 ⟨rfl, hp2, hl2⟩
          refine ⟨_, rfl, _, rfl, fun _ _ => Or.inr rfl, ?_⟩
          exact ⟨⟨(hl2.cells 0).trans hW.1.1, (hl2.cells 1).trans hW.1.2.1, (hl2.cells 2).trans hW.1.2.2.1, (hl2.cells 3).trans hW.1.2.2.2⟩, hW.2.1.trans hl2.low, Nat.lt_of_lt_of_le hW.2.2.1 hl2.size, hp2⟩
        · intro ph a w1 hpo hsp ht hW
          have e8 : a.tmps[8]?.getD undef = .pointer (some ⟨q, 0, none⟩) := ht.old 8 (.pointer (some ⟨q, 0, none⟩)) (by kernel_rfl) rfl
          refine wp_value (v := .pointer (some ⟨q, 0, none⟩)) (w' := w1) (by go_simp) ⟨_, rfl, fun _ _ => Or.inr rfl, ?_⟩
          rw [put_keeps _ _ _ 38 (by decide), put_keeps _ _ _ 44 (by decide)]
          exact hW
        · intro ph a w1 hpo hsp ht hW
          have e10 : a.tmps[10]?.getD undef = .pointer (some ⟨A, 0, none⟩) := ht.old 10 (.pointer (some ⟨A, 0, none⟩)) (by kernel_rfl) rfl
          refine wp_value (v := .pointer (some ⟨A, 2, none⟩)) (w' := w1) (by go_simp) ⟨_, rfl, fun _ _ => Or.inr rfl, ?_⟩
          rw [put_keeps _ _ _ 38 (by decide), put_keeps _ _ _ 44 (by decide)]
          exact hW
        · intro ph a w1 hpo hsp ht hW
          have e40 : a.tmps[40]?.getD undef = .pointer (some ⟨A, 2, none⟩) := dep_valU (ht.dep 7 40 (by kernel_rfl) rfl) (by decide)
          have hc := hW.1.2.2.1
          refine wp_value (v := .string hd) (w' := w1) (by go_simp) ⟨_, rfl, fun _ _ => Or.inr rfl, ?_⟩
          rw [put_keeps _ _ _ 38 (by decide), put_keeps _ _ _ 44 (by decide)]
          exact hW
        · intro ph a w1 hpo hsp ht hW
          have e10 : a.tmps[10]?.getD undef = .pointer (some ⟨A, 0, none⟩) := ht.old 10 (.pointer (some ⟨A, 0, none⟩)) (by kernel_rfl) rfl
          refine wp_value (v := .pointer (some ⟨A, 3, none⟩)) (w' := w1) (by go_simp) ⟨_, rfl, fun _ _ => Or.inr rfl, ?_⟩
          rw [put_keeps _ _ _ 38 (by decide), put_keeps _ _ _ 44 (by decide)]
          exact hW
        · intro ph a w1 hpo hsp ht hW
          have e42 : a.tmps[42]?.getD undef = .pointer (some ⟨A, 3, none⟩) := dep_valU (ht.dep 9 42 (by kernel_rfl) rfl) (by decide)
          have hc := hW.1.2.2.2
          refine wp_value (v := .slice eo ne ec) (w' := w1) (by go_simp) ⟨_, rfl, fun _ _ => Or.inr rfl, ?_⟩
          rw [put_keeps _ _ _ 38 (by decide), put_keeps _ _ _ 44 (by decide)]
          exact hW
        · intro ph a w1 hpo hsp ht hW
          have e39 : a.tmps[39]?.getD undef = .pointer (some ⟨q, 0, none⟩) := dep_valU (ht.dep 6 39 (by kernel_rfl) rfl) (by decide)
          have e41 : a.tmps[41]?.getD undef = .string hd := dep_valU (ht.dep 8 41 (by kernel_rfl) rfl) (by decide)
          have e43 : a.tmps[43]?.getD undef = .slice eo ne ec := dep_valU (ht.dep 10 43 (by kernel_rfl) rfl) (by decide)
          obtain rfl : ph = 1 := by have h := hsp rfl; rcases ph with _ | _ | ph <;> simp_all
          refine wp_calls (f := 42) (args := #[.pointer (some ⟨q, 0, none⟩), .string hd, .slice eo ne ec]) (by go_simp) ((CT2.out w1 hW.2.2.2 hW.2.2.1 hW.2.1).mono ?_)
          rintro e w2 ⟨rfl, hp2, hl2⟩
          refine ⟨_, rfl, _, rfl, fun _ _ => Or.inr rfl, ?_⟩
          exact ⟨⟨(hl2.cells 0).trans hW.1.1, (hl2.cells 1).trans hW.1.2.1, (hl2.cells 2).trans hW.1.2.2.1, (hl2.cells 3).trans hW.1.2.2.2⟩, hW.2.1.trans hl2.low, Nat.lt_of_lt_of_le hW.2.2.1 hl2.size, hp2⟩
        · intro ph a w1 hpo hsp ht hW
          have e38 : a.tmps[38]?.getD undef = .int .i64 r := dep_valU (ht.dep 5 38 (by kernel_rfl) rfl) (by decide)
          refine wp_value (v := .int .i64 r) (w' := w1) (by go_simp) ⟨_, rfl, fun _ _ => Or.inr rfl, ?_⟩
          rw [put_keeps _ _ _ 38 (by decide), put_keeps _ _ _ 44 (by decide)]
          exact hW
        · intro ph a w1 hpo hsp ht hW
          have e44 : a.tmps[44]?.getD undef = .int .i64 r := dep_valU (ht.dep 11 44 (by kernel_rfl) rfl) (by decide)
          refine wp_value (v := .int .i64 r) (w' := w1) (by go_simp) ⟨_, rfl, fun _ _ => Or.inr rfl, ?_⟩
          rw [put_keeps _ _ _ 38 (by decide), put_keeps _ _ _ 44 (by decide)]
          exact hW
        · intro vs w7 hl hvs hW8
          have hl : vs.length = 14 := hl
          obtain ⟨v0, r0, rfl, l0⟩ := uncons vs hl
          obtain ⟨v1, r1, rfl, l1⟩ := uncons r0 l0
          obtain ⟨v2, r2, rfl, l2⟩ := uncons r1 l1
          obtain ⟨v3, r3, rfl, l3⟩ := uncons r2 l2
          obtain ⟨v4, r4, rfl, l4⟩ := uncons r3 l3
          obtain ⟨v5, r5, rfl, l5⟩ := uncons r4 l4
          obtain ⟨v6, r6, rfl, l6⟩ := uncons r5 l5
          obtain ⟨v7, r7, rfl, l7⟩ := uncons r6 l6
          obtain ⟨v8, r8, rfl, l8⟩ := uncons r7 l7
          obtain ⟨v9, r9, rfl, l9⟩ := uncons r8 l8
          obtain ⟨v10, r10, rfl, l10⟩ := uncons r9 l9
          obtain ⟨v11, r11, rfl, l11⟩ := uncons r10 l10
          obtain ⟨v12, r12, rfl, l12⟩ := uncons r11 l11
          obtain ⟨v13, r13, rfl, l13⟩ := uncons r12 l12
          obtain rfl := List.eq_nil_of_length_eq_zero l13
          have h12 : v12 = .int .i64 r := dep_valU (hvs 12 11 rfl) (by decide)
          subst h12
          have h13 : v13 = .int .i64 r := dep_valU (hvs 13 12 rfl) (by decide)
          subst h13
          have HP7 : Hid (Pair X A p q st1 st1.all w7) := hW8.2.2.2
          have HB7 : Hid (Below X w w7) := hW8.2.1
          clear hW8 hW0 HW0 CT1 CT2
          clear hvs
          simp only [puts, List.map, go_sem, List.setIfInBounds_toArray, List.set_cons_succ, List.set_cons_zero]
          have HB13 := Lib.hid HB7.out
          obtain ⟨S7, v7, hf7⟩ := HP7.out.left
          obtain ⟨T7, u7, hr7⟩ := HP7.out.right
          obtain ⟨ra, rc, rfl, hra, _, _⟩ := hr7.form
          have hcq := hr7.cell
          have HF7 := Lib.hid hf7
          have HR7 := Lib.hid hr7
          have HRA := Lib.hid hra
          obtain ⟨L, hL⟩ : ∃ L, L = st1.all.length := ⟨_, rfl⟩
          rw [← hL] at hcq
          have CLN : Hid (∀ w', Below w7.heap.size w7 w' → Calls Try.prog 45 #[.pointer (some ⟨p, 0, none⟩)] w' fun e w'' => e = .returned (.int .i64 (L : Int)) ∧ Below w'.heap.size w' w'') := fun w' hb' =>
            (len_feed (HF7.out.turned (Turned.of_below (S := fun _ => False) hb') (fun _ _ _ h => h)) (L : Int) (by rw [hL])).mono fun e w'' h => ⟨h.1, by rw [h.2]; exact Below.refl _ _⟩
          have CHD : Hid (∀ w', Below w7.heap.size w7 w' → Calls Try.prog 37 #[.pointer (some ⟨p, 0, none⟩)] w' fun e w'' => e = .returned (.string st1.head) ∧ Below w'.heap.size w' w'') := fun w' hb' =>
            (head_feed (HF7.out.turned (Turned.of_below (S := fun _ => False) hb') (fun _ _ _ h => h))).mono fun e w'' h => ⟨h.1, by rw [h.2]; exact Below.refl _ _⟩
          have CRH : Hid (∀ w', Below w7.heap.size w7 w' → Calls Try.prog 46 #[.slice ra L rc] w' fun e w'' => e = .returned (.string st1.head) ∧ Below w'.heap.size w' w'') := fun w' hb' => by
            have h := refHead_any hR st1.all ra rc w' (HRA.out.kept hb' (Nat.le_refl _)) HG1.out.ok (by have := HG1.out.len; have := HK30.out; omega)
            rw [HG1.out.chained.headL, ← hL] at h
            exact h
          have CSI : Hid (∀ w', Below w7.heap.size w7 w' → Calls Try.prog 47 #[.pointer (some ⟨p, 0, none⟩), .int .i64 seq, .int .i64 most] w' (EntOut w' (sinceL st1.all seq most))) := fun w' hb' =>
            since_any S7 p _ st1 v7 seq most w' (HF7.out.turned (Turned.of_below (S := fun _ => False) hb') (fun _ _ _ h => h)) (by have := HG1.out.len; have := HK30.out; omega)
          have CRS : Hid (∀ w', Below w7.heap.size w7 w' → Calls Try.prog 48 #[.pointer (some ⟨q, 0, none⟩), .int .i64 seq, .int .i64 most] w' (EntOut w' (sinceL st1.all seq most))) := fun w' hb' =>
            refSince_any T7 q st1 _ seq most w' (HR7.out.below hb') HG1.out.chained (by have := HG1.out.len; have := HK30.out; omega)
          have HSL : Hid ((sinceL st1.all seq most).length ≤ 100000) := by
            have h1 := HG1.out.len
            have h2 := HK30.out
            have h3 := sinceK_len st1.all seq most st1.all.length
            rw [sinceK_all] at h3
            show _ ≤ _
            omega
          have hss : (st1.head.toList == st1.head.toList) = true := by simp
          have hss2 : (st1.head.toList != st1.head.toList) = false := by simp
          obtain ⟨sub, hsub⟩ : ∃ sub, sub = sinceL st1.all seq most := ⟨_, rfl⟩
          obtain ⟨sh, hsh⟩ : ∃ sh, sh = st1.head := ⟨_, rfl⟩
          rw [← hsub] at CSI CRS HSL
          rw [← hsh] at CHD CRH hss hss2
          have CSM : Hid (∀ (a3 : Option Addr) (c3 : Nat) (a4 : Option Addr) (c4 : Nat) (w5 : World), EntsAt w5 a3 sub → EntsAt w5 a4 sub → Calls Try.prog 38 #[.slice a3 sub.length c3, .slice a4 sub.length c4] w5 fun e w' => e = .returned (.bool true) ∧ Below w5.heap.size w5 w') := fun a3 c3 a4 c4 w5 h1 h2 => by
            have h := same39_any sub sub a3 a4 c3 c4 w5 h1 h2 (by have h3 := HSL.out; omega)
            rw [decide_eq_true rfl] at h
            exact h
          clear hf7 hr7 hra hL hsub hsh HF7 HR7 HRA HB7
          go_upto_region 13 with fail
          refine wp_region_puts2 (R := fun qi w' v => if qi = 27 then ∃ a2 c2, v = .slice a2 sub.length c2 ∧ EntsAt w' a2 sub else if qi = 31 then ∃ a2 c2, v = .slice a2 sub.length c2 ∧ EntsAt w' a2 sub else v = [Value.int .i64 r, .int .i64 r, .bool false, .bool false, .pointer (some ⟨p, 0, none⟩), .int .i64 (L : Int), .pointer (some ⟨q, 0, none⟩), .pointer (some ⟨q, 0, none⟩), .pointer (some ⟨q, 0, none⟩), .slice ra L rc, .int .i64 (L : Int), .bool false, .bool false, .bool false, .pointer (some ⟨p, 0, none⟩), .string sh, .pointer (some ⟨q, 0, none⟩), .pointer (some ⟨q, 0, none⟩), .pointer (some ⟨q, 0, none⟩), .slice ra L rc, .string sh, .bool false, .bool false, .bool false, .pointer (some ⟨p, 0, none⟩), .int .i64 seq, .int .i64 most, undef, .pointer (some ⟨q, 0, none⟩), .int .i64 seq, .int .i64 most, undef, .bool true, .bool false, .bool false].getD qi undef)
            (by kernel_rfl) (by kernel_rfl) (by kernel_rfl) ?hRR (by kernel_rfl) (steps_of ?hs) ?hd
          case hRR =>
            intro qi w1 w2 v hb hv
            by_cases h27 : qi = 27
            · rw [if_pos h27] at hv ⊢
              obtain ⟨a2, c2, h1, h2⟩ := hv
              exact ⟨a2, c2, h1, h2.kept hb (Nat.le_refl _)⟩
            rw [if_neg h27] at hv ⊢
            by_cases h31 : qi = 31
            · rw [if_pos h31] at hv ⊢
              obtain ⟨a2, c2, h1, h2⟩ := hv
              exact ⟨a2, c2, h1, h2.kept hb (Nat.le_refl _)⟩
            rw [if_neg h31] at hv ⊢
            exact hv
          case hs =>
            refine ⟨?_, ?_, ?_, ?_, ?_, ?_, ?_, ?_, ?_, ?_, ?_, ?_, ?_, ?_, ?_, ?_, ?_, ?_, ?_, ?_, ?_, ?_, ?_, ?_, ?_, ?_, ?_, ?_, ?_, ?_, ?_, ?_, ?_, ?_, ?_, trivial⟩
            · refine stepOk_value rfl fun a w5 ht => ?_
              have e11 : a.tmps[11]?.getD undef = .int .i64 r := ht.old' 11 (.int .i64 r) (by kernel_rfl) rfl
              exact ⟨Value.int .i64 r, w5, by go_simp, Below.refl _ _, rfl⟩
            · refine stepOk_value rfl fun a w5 ht => ?_
              have e12 : a.tmps[12]?.getD undef = .int .i64 r := ht.old' 12 (.int .i64 r) (by kernel_rfl) rfl
              exact ⟨.int .i64 r, w5, by go_simp, Below.refl _ _, rfl⟩
            · refine stepOk_value rfl fun a w5 ht => ?_
              have e53 : a.tmps[53]?.getD undef = Value.int .i64 r := ht.dep' 0 53 (by kernel_rfl) rfl
              have e54 : a.tmps[54]?.getD undef = .int .i64 r := ht.dep' 1 54 (by kernel_rfl) rfl
              exact ⟨.bool false, w5, by go_simp, Below.refl _ _, rfl⟩
            · refine stepOk_value rfl fun a w5 ht => ?_
              have e55 : a.tmps[55]?.getD undef = .bool false := ht.dep' 2 55 (by kernel_rfl) rfl
              exact ⟨.bool false, w5, by go_simp, Below.refl _ _, rfl⟩
            · refine stepOk_value_guarded 3 56 false rfl (by kernel_rfl) rfl (Nat.le_of_ble_eq_true rfl) (fun w v h => h) fun a w5 ht => ?_
              have e7 : a.tmps[7]?.getD undef = .pointer (some ⟨p, 0, none⟩) := ht.old' 7 (.pointer (some ⟨p, 0, none⟩)) (by kernel_rfl) rfl
              exact ⟨.pointer (some ⟨p, 0, none⟩), w5, by go_simp, Below.refl _ _, rfl⟩
            · refine stepOk_call_guarded 3 56 false rfl (by kernel_rfl) rfl (Nat.le_of_ble_eq_true rfl) (fun w v h => h) fun a w5 ht => ?_
              have e57 : a.tmps[57]?.getD undef = .pointer (some ⟨p, 0, none⟩) := ht.dep' 4 57 (by kernel_rfl) rfl
              refine ⟨45, #[.pointer (some ⟨p, 0, none⟩)], by go_simp, (CLN.out w5 ht.below).mono ?_⟩
              rintro e w' ⟨rfl, hb⟩
              exact ⟨_, rfl, hb, rfl⟩
            · refine stepOk_value_guarded 3 56 false rfl (by kernel_rfl) rfl (Nat.le_of_ble_eq_true rfl) (fun w v h => h) fun a w5 ht => ?_
              have e8 : a.tmps[8]?.getD undef = .pointer (some ⟨q, 0, none⟩) := ht.old' 8 (.pointer (some ⟨q, 0, none⟩)) (by kernel_rfl) rfl
              exact ⟨.pointer (some ⟨q, 0, none⟩), w5, by go_simp, Below.refl _ _, rfl⟩
            · refine stepOk_value_guarded 3 56 false rfl (by kernel_rfl) rfl (Nat.le_of_ble_eq_true rfl) (fun w v h => h) fun a w5 ht => ?_
              have e59 : a.tmps[59]?.getD undef = .pointer (some ⟨q, 0, none⟩) := ht.dep' 6 59 (by kernel_rfl) rfl
              exact ⟨.pointer (some ⟨q, 0, none⟩), w5, by go_simp, Below.refl _ _, rfl⟩
            · refine stepOk_value_guarded 3 56 false rfl (by kernel_rfl) rfl (Nat.le_of_ble_eq_true rfl) (fun w v h => h) fun a w5 ht => ?_
              have e60 : a.tmps[60]?.getD undef = .pointer (some ⟨q, 0, none⟩) := ht.dep' 7 60 (by kernel_rfl) rfl
              exact ⟨.pointer (some ⟨q, 0, none⟩), w5, by go_simp, Below.refl _ _, rfl⟩
            · refine stepOk_value_guarded 3 56 false rfl (by kernel_rfl) rfl (Nat.le_of_ble_eq_true rfl) (fun w v h => h) fun a w5 ht => ?_
              have e61 : a.tmps[61]?.getD undef = .pointer (some ⟨q, 0, none⟩) := ht.dep' 8 61 (by kernel_rfl) rfl
              have hc0 := (ht.below.cell (p := ⟨q, 0, none⟩) (World.block_lt_of_cell? _ _ hcq)).trans hcq
              exact ⟨.slice ra L rc, w5, by go_simp, Below.refl _ _, rfl⟩
            · refine stepOk_value_guarded 3 56 false rfl (by kernel_rfl) rfl (Nat.le_of_ble_eq_true rfl) (fun w v h => h) fun a w5 ht => ?_
              have e62 : a.tmps[62]?.getD undef = .slice ra L rc := ht.dep' 9 62 (by kernel_rfl) rfl
              exact ⟨.int .i64 (L : Int), w5, by go_simp, Below.refl _ _, rfl⟩
            · refine stepOk_value_guarded 3 56 false rfl (by kernel_rfl) rfl (Nat.le_of_ble_eq_true rfl) (fun w v h => h) fun a w5 ht => ?_
              have e58 : a.tmps[58]?.getD undef = .int .i64 (L : Int) := ht.dep' 5 58 (by kernel_rfl) rfl
              have e63 : a.tmps[63]?.getD undef = .int .i64 (L : Int) := ht.dep' 10 63 (by kernel_rfl) rfl
              exact ⟨.bool false, w5, by go_simp, Below.refl _ _, rfl⟩
            · refine stepOk_value rfl fun a w5 ht => ?_
              have e56 : a.tmps[56]?.getD undef = .bool false := ht.dep' 3 56 (by kernel_rfl) rfl
              have e64 : a.tmps[64]?.getD undef = .bool false := ht.dep' 11 64 (by kernel_rfl) rfl
              exact ⟨.bool false, w5, by go_simp, Below.refl _ _, rfl⟩
            · refine stepOk_value rfl fun a w5 ht => ?_
              have e65 : a.tmps[65]?.getD undef = .bool false := ht.dep' 12 65 (by kernel_rfl) rfl
              exact ⟨.bool false, w5, by go_simp, Below.refl _ _, rfl⟩
            · refine stepOk_value_guarded 13 66 false rfl (by kernel_rfl) rfl (Nat.le_of_ble_eq_true rfl) (fun w v h => h) fun a w5 ht => ?_
              have e7 : a.tmps[7]?.getD undef = .pointer (some ⟨p, 0, none⟩) := ht.old' 7 (.pointer (some ⟨p, 0, none⟩)) (by kernel_rfl) rfl
              exact ⟨.pointer (some ⟨p, 0, none⟩), w5, by go_simp, Below.refl _ _, rfl⟩
            · refine stepOk_call_guarded 13 66 false rfl (by kernel_rfl) rfl (Nat.le_of_ble_eq_true rfl) (fun w v h => h) fun a w5 ht => ?_
              have e67 : a.tmps[67]?.getD undef = .pointer (some ⟨p, 0, none⟩) := ht.dep' 14 67 (by kernel_rfl) rfl
              refine ⟨37, #[.pointer (some ⟨p, 0, none⟩)], by go_simp, (CHD.out w5 ht.below).mono ?_⟩
              rintro e w' ⟨rfl, hb⟩
              exact ⟨_, rfl, hb, rfl⟩
            · refine stepOk_value_guarded 13 66 false rfl (by kernel_rfl) rfl (Nat.le_of_ble_eq_true rfl) (fun w v h => h) fun a w5 ht => ?_
              have e8 : a.tmps[8]?.getD undef = .pointer (some ⟨q, 0, none⟩) := ht.old' 8 (.pointer (some ⟨q, 0, none⟩)) (by kernel_rfl) rfl
              exact ⟨.pointer (some ⟨q, 0, none⟩), w5, by go_simp, Below.refl _ _, rfl⟩
            · refine stepOk_value_guarded 13 66 false rfl (by kernel_rfl) rfl (Nat.le_of_ble_eq_true rfl) (fun w v h => h) fun a w5 ht => ?_
              have e69 : a.tmps[69]?.getD undef = .pointer (some ⟨q, 0, none⟩) := ht.dep' 16 69 (by kernel_rfl) rfl
              exact ⟨.pointer (some ⟨q, 0, none⟩), w5, by go_simp, Below.refl _ _, rfl⟩
            · refine stepOk_value_guarded 13 66 false rfl (by kernel_rfl) rfl (Nat.le_of_ble_eq_true rfl) (fun w v h => h) fun a w5 ht => ?_
              have e70 : a.tmps[70]?.getD undef = .pointer (some ⟨q, 0, none⟩) := ht.dep' 17 70 (by kernel_rfl) rfl
              exact ⟨.pointer (some ⟨q, 0, none⟩), w5, by go_simp, Below.refl _ _, rfl⟩
            · refine stepOk_value_guarded 13 66 false rfl (by kernel_rfl) rfl (Nat.le_of_ble_eq_true rfl) (fun w v h => h) fun a w5 ht => ?_
              have e71 : a.tmps[71]?.getD undef = .pointer (some ⟨q, 0, none⟩) := ht.dep' 18 71 (by kernel_rfl) rfl
              have hc0 := (ht.below.cell (p := ⟨q, 0, none⟩) (World.block_lt_of_cell? _ _ hcq)).trans hcq
              exact ⟨.slice ra L rc, w5, by go_simp, Below.refl _ _, rfl⟩
            · refine stepOk_call_guarded 13 66 false rfl (by kernel_rfl) rfl (Nat.le_of_ble_eq_true rfl) (fun w v h => h) fun a w5 ht => ?_
              have e72 : a.tmps[72]?.getD undef = .slice ra L rc := ht.dep' 19 72 (by kernel_rfl) rfl
              refine ⟨46, #[.slice ra L rc], by go_simp, (CRH.out w5 ht.below).mono ?_⟩
              rintro e w' ⟨rfl, hb⟩
              exact ⟨_, rfl, hb, rfl⟩
            · refine stepOk_value_guarded 13 66 false rfl (by kernel_rfl) rfl (Nat.le_of_ble_eq_true rfl) (fun w v h => h) fun a w5 ht => ?_
              have e68 : a.tmps[68]?.getD undef = .string sh := ht.dep' 15 68 (by kernel_rfl) rfl
              have e73 : a.tmps[73]?.getD undef = .string sh := ht.dep' 20 73 (by kernel_rfl) rfl
              exact ⟨.bool false, w5, by go_simp, Below.refl _ _, rfl⟩
            · refine stepOk_value rfl fun a w5 ht => ?_
              have e66 : a.tmps[66]?.getD undef = .bool false := ht.dep' 13 66 (by kernel_rfl) rfl
              have e74 : a.tmps[74]?.getD undef = .bool false := ht.dep' 21 74 (by kernel_rfl) rfl
              exact ⟨.bool false, w5, by go_simp, Below.refl _ _, rfl⟩
            · refine stepOk_value rfl fun a w5 ht => ?_
              have e75 : a.tmps[75]?.getD undef = .bool false := ht.dep' 22 75 (by kernel_rfl) rfl
              exact ⟨.bool false, w5, by go_simp, Below.refl _ _, rfl⟩
            · refine stepOk_value_guarded 23 76 false rfl (by kernel_rfl) rfl (Nat.le_of_ble_eq_true rfl) (fun w v h => h) fun a w5 ht => ?_
              have e7 : a.tmps[7]?.getD undef = .pointer (some ⟨p, 0, none⟩) := ht.old' 7 (.pointer (some ⟨p, 0, none⟩)) (by kernel_rfl) rfl
              exact ⟨.pointer (some ⟨p, 0, none⟩), w5, by go_simp, Below.refl _ _, rfl⟩
            · refine stepOk_value_guarded 23 76 false rfl (by kernel_rfl) rfl (Nat.le_of_ble_eq_true rfl) (fun w v h => h) fun a w5 ht => ?_
              have e1 : a.tmps[1]?.getD undef = .int .i64 seq := ht.old' 1 (.int .i64 seq) (by kernel_rfl) rfl
              exact ⟨.int .i64 seq, w5, by go_simp, Below.refl _ _, rfl⟩
            · refine stepOk_value_guarded 23 76 false rfl (by kernel_rfl) rfl (Nat.le_of_ble_eq_true rfl) (fun w v h => h) fun a w5 ht => ?_
              have e2 : a.tmps[2]?.getD undef = .int .i64 most := ht.old' 2 (.int .i64 most) (by kernel_rfl) rfl
              exact ⟨.int .i64 most, w5, by go_simp, Below.refl _ _, rfl⟩
            · refine stepOk_call_guarded 23 76 false rfl (by kernel_rfl) rfl (Nat.le_of_ble_eq_true rfl) (fun w v h => h) fun a w5 ht => ?_
              have e77 : a.tmps[77]?.getD undef = .pointer (some ⟨p, 0, none⟩) := ht.dep' 24 77 (by kernel_rfl) rfl
              have e78 : a.tmps[78]?.getD undef = .int .i64 seq := ht.dep' 25 78 (by kernel_rfl) rfl
              have e79 : a.tmps[79]?.getD undef = .int .i64 most := ht.dep' 26 79 (by kernel_rfl) rfl
              refine ⟨47, #[.pointer (some ⟨p, 0, none⟩), .int .i64 seq, .int .i64 most], by go_simp, (CSI.out w5 ht.below).mono ?_⟩
              rintro e w' ⟨v, rfl, h1, h2⟩
              obtain ⟨a2, c2, rfl, h3, _⟩ := entsAt_owns h1
              exact ⟨_, rfl, h2, a2, c2, rfl, h3⟩
            · refine stepOk_value_guarded 23 76 false rfl (by kernel_rfl) rfl (Nat.le_of_ble_eq_true rfl) (fun w v h => h) fun a w5 ht => ?_
              have e8 : a.tmps[8]?.getD undef = .pointer (some ⟨q, 0, none⟩) := ht.old' 8 (.pointer (some ⟨q, 0, none⟩)) (by kernel_rfl) rfl
              exact ⟨.pointer (some ⟨q, 0, none⟩), w5, by go_simp, Below.refl _ _, rfl⟩
            · refine stepOk_value_guarded 23 76 false rfl (by kernel_rfl) rfl (Nat.le_of_ble_eq_true rfl) (fun w v h => h) fun a w5 ht => ?_
              have e1 : a.tmps[1]?.getD undef = .int .i64 seq := ht.old' 1 (.int .i64 seq) (by kernel_rfl) rfl
              exact ⟨.int .i64 seq, w5, by go_simp, Below.refl _ _, rfl⟩
            · refine stepOk_value_guarded 23 76 false rfl (by kernel_rfl) rfl (Nat.le_of_ble_eq_true rfl) (fun w v h => h) fun a w5 ht => ?_
              have e2 : a.tmps[2]?.getD undef = .int .i64 most := ht.old' 2 (.int .i64 most) (by kernel_rfl) rfl
              exact ⟨.int .i64 most, w5, by go_simp, Below.refl _ _, rfl⟩
            · refine stepOk_call_guarded 23 76 false rfl (by kernel_rfl) rfl (Nat.le_of_ble_eq_true rfl) (fun w v h => h) fun a w5 ht => ?_
              have e81 : a.tmps[81]?.getD undef = .pointer (some ⟨q, 0, none⟩) := ht.dep' 28 81 (by kernel_rfl) rfl
              have e82 : a.tmps[82]?.getD undef = .int .i64 seq := ht.dep' 29 82 (by kernel_rfl) rfl
              have e83 : a.tmps[83]?.getD undef = .int .i64 most := ht.dep' 30 83 (by kernel_rfl) rfl
              refine ⟨48, #[.pointer (some ⟨q, 0, none⟩), .int .i64 seq, .int .i64 most], by go_simp, (CRS.out w5 ht.below).mono ?_⟩
              rintro e w' ⟨v, rfl, h1, h2⟩
              obtain ⟨a2, c2, rfl, h3, _⟩ := entsAt_owns h1
              exact ⟨_, rfl, h2, a2, c2, rfl, h3⟩
            · refine stepOk_call_guarded 23 76 false rfl (by kernel_rfl) rfl (Nat.le_of_ble_eq_true rfl) (fun w v h => h) fun a w5 ht => ?_
              have e80 : ∃ a2 c2, a.tmps[80]?.getD undef = .slice a2 sub.length c2 ∧ EntsAt w5 a2 sub := ht.dep' 27 80 (by kernel_rfl) rfl
              have e84 : ∃ a2 c2, a.tmps[84]?.getD undef = .slice a2 sub.length c2 ∧ EntsAt w5 a2 sub := ht.dep' 31 84 (by kernel_rfl) rfl
              obtain ⟨a3, c3, e80, h80⟩ := e80
              obtain ⟨a4, c4, e84, h84⟩ := e84
              refine ⟨38, #[.slice a3 sub.length c3, .slice a4 sub.length c4], by go_simp, (CSM.out a3 c3 a4 c4 w5 h80 h84).mono ?_⟩
              rintro e w' ⟨rfl, hb⟩
              exact ⟨_, rfl, hb, rfl⟩
            · refine stepOk_value_guarded 23 76 false rfl (by kernel_rfl) rfl (Nat.le_of_ble_eq_true rfl) (fun w v h => h) fun a w5 ht => ?_
              have e85 : a.tmps[85]?.getD undef = .bool true := ht.dep' 32 85 (by kernel_rfl) rfl
              exact ⟨.bool false, w5, by go_simp, Below.refl _ _, rfl⟩
            · refine stepOk_value rfl fun a w5 ht => ?_
              have e76 : a.tmps[76]?.getD undef = .bool false := ht.dep' 23 76 (by kernel_rfl) rfl
              have e86 : a.tmps[86]?.getD undef = .bool false := ht.dep' 33 86 (by kernel_rfl) rfl
              exact ⟨.bool false, w5, by go_simp, Below.refl _ _, rfl⟩
          case hd =>
            intro vs w8 hl hb8 hvs
            have hl : vs.length = 35 := hl
            obtain ⟨v0, r0, rfl, l0⟩ := uncons vs hl
            obtain ⟨v1, r1, rfl, l1⟩ := uncons r0 l0
            obtain ⟨v2, r2, rfl, l2⟩ := uncons r1 l1
            obtain ⟨v3, r3, rfl, l3⟩ := uncons r2 l2
            obtain ⟨v4, r4, rfl, l4⟩ := uncons r3 l3
            obtain ⟨v5, r5, rfl, l5⟩ := uncons r4 l4
            obtain ⟨v6, r6, rfl, l6⟩ := uncons r5 l5
            obtain ⟨v7, r7, rfl, l7⟩ := uncons r6 l6
            obtain ⟨v8, r8, rfl, l8⟩ := uncons r7 l7
            obtain ⟨v9, r9, rfl, l9⟩ := uncons r8 l8
            obtain ⟨v10, r10, rfl, l10⟩ := uncons r9 l9
            obtain ⟨v11, r11, rfl, l11⟩ := uncons r10 l10
            obtain ⟨v12, r12, rfl, l12⟩ := uncons r11 l11
            obtain ⟨v13, r13, rfl, l13⟩ := uncons r12 l12
            obtain ⟨v14, r14, rfl, l14⟩ := uncons r13 l13
            obtain ⟨v15, r15, rfl, l15⟩ := uncons r14 l14
            obtain ⟨v16, r16, rfl, l16⟩ := uncons r15 l15
            obtain ⟨v17, r17, rfl, l17⟩ := uncons r16 l16
            obtain ⟨v18, r18, rfl, l18⟩ := uncons r17 l17
            obtain ⟨v19, r19, rfl, l19⟩ := uncons r18 l18
            obtain ⟨v20, r20, rfl, l20⟩ := uncons r19 l19
            obtain ⟨v21, r21, rfl, l21⟩ := uncons r20 l20
            obtain ⟨v22, r22, rfl, l22⟩ := uncons r21 l21
            obtain ⟨v23, r23, rfl, l23⟩ := uncons r22 l22
            obtain ⟨v24, r24, rfl, l24⟩ := uncons r23 l23
            obtain ⟨v25, r25, rfl, l25⟩ := uncons r24 l24
            obtain ⟨v26, r26, rfl, l26⟩ := uncons r25 l25
            obtain ⟨v27, r27, rfl, l27⟩ := uncons r26 l26
            obtain ⟨v28, r28, rfl, l28⟩ := uncons r27 l27
            obtain ⟨v29, r29, rfl, l29⟩ := uncons r28 l28
            obtain ⟨v30, r30, rfl, l30⟩ := uncons r29 l29
            obtain ⟨v31, r31, rfl, l31⟩ := uncons r30 l30
            obtain ⟨v32, r32, rfl, l32⟩ := uncons r31 l31
            obtain ⟨v33, r33, rfl, l33⟩ := uncons r32 l32
            obtain ⟨v34, r34, rfl, l34⟩ := uncons r33 l33
            obtain rfl := List.eq_nil_of_length_eq_zero l34
            have h34 : v34 = .bool false := hvs 34 (by decide)
            subst h34
            clear hvs
            simp only [puts, List.map, go_sem, List.setIfInBounds_toArray, List.set_cons_succ, List.set_cons_zero]
            have HB9 : Hid (Below X w w8) := HB13.out.trans (hb8.mono (by have h1 := HP7.out.low; exact h1))
            have HP9 := Lib.hid (HP7.out.kept hb8)
            clear hb8 HP7 HB13 CLN CHD CRH CSI CRS CSM hcq hss hss2
            go_wp2_with fail
            go_roundw
            case rel => exact ⟨k + 1, by omega, by go_num, ⟨st1, A, HG1.out, HP9.out⟩, HB9⟩
            case measure => simp [intOf]; omega
      | false =>
        have HG1 : Hid (Good H (300 * k + 300) (addR H st bods).1) := HGD.out.adds hS.1 bods (by have := HAO.out.bods; simp only at this; omega) (by have := HK30.out; omega)
        have CT1 : Hid (∀ w', Pair X A p q st st.all w' → A < w'.heap.size → Below X w w' → Calls Try.prog 43 #[.pointer (some ⟨p, 0, none⟩), .slice bo nb bc] w' fun e w'' => e = .returned (.int .i64 (addR H st bods).2) ∧ Pair X A p q (addR H st bods).1 st.all w'' ∧ Left X A w' w'') := fun w' h1 h2 h3 => by
          have h := pair_adds1 hS h1 h2 bods bo bc (by have h4 := HGD.out.len; have h5 := HAO.out.bods; have h6 := HK30.out; simp only at h5; omega) HGD.out.head (HSA.out.kept h3 (by rw [HX.out]; exact Nat.le_refl _)) HSEP.out
          rw [← HNB.out] at h
          exact h
        have CT2 : Hid (∀ w', Pair X A p q (addR H st bods).1 st.all w' → A < w'.heap.size → Below X w w' → Calls Try.prog 44 #[.pointer (some ⟨q, 0, none⟩), .slice bo nb bc] w' fun e w'' => e = .returned (.int .i64 (addR H st bods).2) ∧ Pair X A p q (addR H st bods).1 (addR H st bods).1.all w'' ∧ Left X A w' w'') := fun w' h1 h2 h3 => by
          have h := pair_adds2 hR h1 h2 bods bo bc HGD.out.chained HGD.out.ok (by have h4 := HGD.out.len; have h5 := HAO.out.bods; have h6 := HK30.out; simp only at h5; omega) HGD.out.head HSF.out (HSA.out.kept h3 (by rw [HX.out]; exact Nat.le_refl _)) HSEP.out
          rw [← HNB.out] at h
          exact h
        generalize (addR H st bods).1 = st1 at *
        generalize (addR H st bods).2 = r at *
        have HW0 : Hid (∀ (x y : Value), PlayW X A p q (.bool false) (.slice bo nb bc) (.string hd) (.slice eo ne ec) st st1 w 0 x y w5.drew) := fun x y =>
          ⟨⟨y0, y1, y2, y3⟩, HB5.out.drew, HA5.out, HP5.out.kept ((Below.refl _ w5).drew)⟩
        go_upto_region 12 with fail
        have hW0 := HW0.out
        clear y1 y2 y3 HP5 HB5 HA5 HEOK HEA HEL HSEP HSA HSF HGD HNB HNE HG
        refine wp_region_phase_puts [3, 7] 48 52 3 7 (R := fun qi v => ([] : List Nat).contains qi = true ∨ v = [.pointer (some ⟨p, 0, none⟩), .pointer (some ⟨A, 1, none⟩), .slice bo nb bc, .int .i64 r, .pointer (some ⟨q, 0, none⟩), .pointer (some ⟨A, 1, none⟩), .slice bo nb bc, .int .i64 r, .int .i64 r, .int .i64 r].getD qi undef) (W := PlayW X A p q (.bool false) (.slice bo nb bc) (.string hd) (.slice eo ne ec) st st1 w)
          (by kernel_rfl) (by kernel_rfl) (by kernel_rfl) (by kernel_rfl) (by kernel_rfl) rfl rfl (hW0 _ _) (steps_of ⟨?_, ?_, ?_, ?_, ?_, ?_, ?_, ?_, ?_, ?_, trivial⟩) ?_
        · intro ph a w1 hpo hsp ht hW
          have e7 : a.tmps[7]?.getD undef = .pointer (some ⟨p, 0, none⟩) := ht.old 7 (.pointer (some ⟨p, 0, none⟩)) (by kernel_rfl) rfl
          refine wp_value (v := .pointer (some ⟨p, 0, none⟩)) (w' := w1) (by go_simp) ⟨_, rfl, fun _ _ => Or.inr rfl, ?_⟩
          rw [put_keeps _ _ _ 48 (by decide), put_keeps _ _ _ 52 (by decide)]
          exact hW
        · intro ph a w1 hpo hsp ht hW
          have e10 : a.tmps[10]?.getD undef = .pointer (some ⟨A, 0, none⟩) := ht.old 10 (.pointer (some ⟨A, 0, none⟩)) (by kernel_rfl) rfl
          refine wp_value (v := .pointer (some ⟨A, 1, none⟩)) (w' := w1) (by go_simp) ⟨_, rfl, fun _ _ => Or.inr rfl, ?_⟩
          rw [put_keeps _ _ _ 48 (by decide), put_keeps _ _ _ 52 (by decide)]
          exact hW
        · intro ph a w1 hpo hsp ht hW
          have e46 : a.tmps[46]?.getD undef = .pointer (some ⟨A, 1, none⟩) := dep_valU (ht.dep 1 46 (by kernel_rfl) rfl) (by decide)
          have hc := hW.1.2.1
          refine wp_value (v := .slice bo nb bc) (w' := w1) (by go_simp) ⟨_, rfl, fun _ _ => Or.inr rfl, ?_⟩
          rw [put_keeps _ _ _ 48 (by decide), put_keeps _ _ _ 52 (by decide)]
          exact hW
        · intro ph a w1 hpo hsp ht hW
          have e45 : a.tmps[45]?.getD undef = .pointer (some ⟨p, 0, none⟩) := dep_valU (ht.dep 0 45 (by kernel_rfl) rfl) (by decide)
          have e47 : a.tmps[47]?.getD undef = .slice bo nb bc := dep_valU (ht.dep 2 47 (by kernel_rfl) rfl) (by decide)
          obtain rfl : ph = 0 := by have h := hsp rfl; rcases ph with _ | _ | ph <;> simp_all
          refine wp_calls (f := 43) (args := #[.pointer (some ⟨p, 0, none⟩), .slice bo nb bc]) (by go_simp) ((CT1.out w1 hW.2.2.2 hW.2.2.1 hW.2.1).mono ?_)
          rintro e w2 ⟨rfl, hp2, hl2⟩
          refine ⟨_, rfl, _, rfl, fun _ _ => Or.inr rfl, ?_⟩
          exact ⟨⟨(hl2.cells 0).trans hW.1.1, (hl2.cells 1).trans hW.1.2.1, (hl2.cells 2).trans hW.1.2.2.1, (hl2.cells 3).trans hW.1.2.2.2⟩, hW.2.1.trans hl2.low, Nat.lt_of_lt_of_le hW.2.2.1 hl2.size, hp2⟩
        · intro ph a w1 hpo hsp ht hW
          have e8 : a.tmps[8]?.getD undef = .pointer (some ⟨q, 0, none⟩) := ht.old 8 (.pointer (some ⟨q, 0, none⟩)) (by kernel_rfl) rfl
          refine wp_value (v := .pointer (some ⟨q, 0, none⟩)) (w' := w1) (by go_simp) ⟨_, rfl, fun _ _ => Or.inr rfl, ?_⟩
          rw [put_keeps _ _ _ 48 (by decide), put_keeps _ _ _ 52 (by decide)]
          exact hW
        · intro ph a w1 hpo hsp ht hW
          have e10 : a.tmps[10]?.getD undef = .pointer (some ⟨A, 0, none⟩) := ht.old 10 (.pointer (some ⟨A, 0, none⟩)) (by kernel_rfl) rfl
          refine wp_value (v := .pointer (some ⟨A, 1, none⟩)) (w' := w1) (by go_simp) ⟨_, rfl, fun _ _ => Or.inr rfl, ?_⟩
          rw [put_keeps _ _ _ 48 (by decide), put_keeps _ _ _ 52 (by decide)]
          exact hW
        · intro ph a w1 hpo hsp ht hW
          have e50 : a.tmps[50]?.getD undef = .pointer (some ⟨A, 1, none⟩) := dep_valU (ht.dep 5 50 (by kernel_rfl) rfl) (by decide)
          have hc := hW.1.2.1
          refine wp_value (v := .slice bo nb bc) (w' := w1) (by go_simp) ⟨_, rfl, fun _ _ => Or.inr rfl, ?_⟩
          rw [put_keeps _ _ _ 48 (by decide), put_keeps _ _ _ 52 (by decide)]
          exact hW
        · intro ph a w1 hpo hsp ht hW
          have e49 : a.tmps[49]?.getD undef = .pointer (some ⟨q, 0, none⟩) := dep_valU (ht.dep 4 49 (by kernel_rfl) rfl) (by decide)
          have e51 : a.tmps[51]?.getD undef = .slice bo nb bc := dep_valU (ht.dep 6 51 (by kernel_rfl) rfl) (by decide)
          obtain rfl : ph = 1 := by have h := hsp rfl; rcases ph with _ | _ | ph <;> simp_all
          refine wp_calls (f := 44) (args := #[.pointer (some ⟨q, 0, none⟩), .slice bo nb bc]) (by go_simp) ((CT2.out w1 hW.2.2.2 hW.2.2.1 hW.2.1).mono ?_)
          rintro e w2 ⟨rfl, hp2, hl2⟩
          refine ⟨_, rfl, _, rfl, fun _ _ => Or.inr rfl, ?_⟩
          exact ⟨⟨(hl2.cells 0).trans hW.1.1, (hl2.cells 1).trans hW.1.2.1, (hl2.cells 2).trans hW.1.2.2.1, (hl2.cells 3).trans hW.1.2.2.2⟩, hW.2.1.trans hl2.low, Nat.lt_of_lt_of_le hW.2.2.1 hl2.size, hp2⟩
        · intro ph a w1 hpo hsp ht hW
          have e48 : a.tmps[48]?.getD undef = .int .i64 r := dep_valU (ht.dep 3 48 (by kernel_rfl) rfl) (by decide)
          refine wp_value (v := .int .i64 r) (w' := w1) (by go_simp) ⟨_, rfl, fun _ _ => Or.inr rfl, ?_⟩
          rw [put_keeps _ _ _ 48 (by decide), put_keeps _ _ _ 52 (by decide)]
          exact hW
        · intro ph a w1 hpo hsp ht hW
          have e52 : a.tmps[52]?.getD undef = .int .i64 r := dep_valU (ht.dep 7 52 (by kernel_rfl) rfl) (by decide)
          refine wp_value (v := .int .i64 r) (w' := w1) (by go_simp) ⟨_, rfl, fun _ _ => Or.inr rfl, ?_⟩
          rw [put_keeps _ _ _ 48 (by decide), put_keeps _ _ _ 52 (by decide)]
          exact hW
        · intro vs w7 hl hvs hW8
          have hl : vs.length = 10 := hl
          obtain ⟨v0, r0, rfl, l0⟩ := uncons vs hl
          obtain ⟨v1, r1, rfl, l1⟩ := uncons r0 l0
          obtain ⟨v2, r2, rfl, l2⟩ := uncons r1 l1
          obtain ⟨v3, r3, rfl, l3⟩ := uncons r2 l2
          obtain ⟨v4, r4, rfl, l4⟩ := uncons r3 l3
          obtain ⟨v5, r5, rfl, l5⟩ := uncons r4 l4
          obtain ⟨v6, r6, rfl, l6⟩ := uncons r5 l5
          obtain ⟨v7, r7, rfl, l7⟩ := uncons r6 l6
          obtain ⟨v8, r8, rfl, l8⟩ := uncons r7 l7
          obtain ⟨v9, r9, rfl, l9⟩ := uncons r8 l8
          obtain rfl := List.eq_nil_of_length_eq_zero l9
          have h8 : v8 = .int .i64 r := dep_valU (hvs 8 11 rfl) (by decide)
          subst h8
          have h9 : v9 = .int .i64 r := dep_valU (hvs 9 12 rfl) (by decide)
          subst h9
          have HP7 : Hid (Pair X A p q st1 st1.all w7) := hW8.2.2.2
          have HB7 : Hid (Below X w w7) := hW8.2.1
          clear hW8 hW0 HW0 CT1 CT2
          clear hvs
          simp only [puts, List.map, go_sem, List.setIfInBounds_toArray, List.set_cons_succ, List.set_cons_zero]
          have HB13 := Lib.hid HB7.out
          obtain ⟨S7, v7, hf7⟩ := HP7.out.left
          obtain ⟨T7, u7, hr7⟩ := HP7.out.right
          obtain ⟨ra, rc, rfl, hra, _, _⟩ := hr7.form
          have hcq := hr7.cell
          have HF7 := Lib.hid hf7
          have HR7 := Lib.hid hr7
          have HRA := Lib.hid hra
          obtain ⟨L, hL⟩ : ∃ L, L = st1.all.length := ⟨_, rfl⟩
          rw [← hL] at hcq
          have CLN : Hid (∀ w', Below w7.heap.size w7 w' → Calls Try.prog 45 #[.pointer (some ⟨p, 0, none⟩)] w' fun e w'' => e = .returned (.int .i64 (L : Int)) ∧ Below w'.heap.size w' w'') := fun w' hb' =>
            (len_feed (HF7.out.turned (Turned.of_below (S := fun _ => False) hb') (fun _ _ _ h => h)) (L : Int) (by rw [hL])).mono fun e w'' h => ⟨h.1, by rw [h.2]; exact Below.refl _ _⟩
          have CHD : Hid (∀ w', Below w7.heap.size w7 w' → Calls Try.prog 37 #[.pointer (some ⟨p, 0, none⟩)] w' fun e w'' => e = .returned (.string st1.head) ∧ Below w'.heap.size w' w'') := fun w' hb' =>
            (head_feed (HF7.out.turned (Turned.of_below (S := fun _ => False) hb') (fun _ _ _ h => h))).mono fun e w'' h => ⟨h.1, by rw [h.2]; exact Below.refl _ _⟩
          have CRH : Hid (∀ w', Below w7.heap.size w7 w' → Calls Try.prog 46 #[.slice ra L rc] w' fun e w'' => e = .returned (.string st1.head) ∧ Below w'.heap.size w' w'') := fun w' hb' => by
            have h := refHead_any hR st1.all ra rc w' (HRA.out.kept hb' (Nat.le_refl _)) HG1.out.ok (by have := HG1.out.len; have := HK30.out; omega)
            rw [HG1.out.chained.headL, ← hL] at h
            exact h
          have CSI : Hid (∀ w', Below w7.heap.size w7 w' → Calls Try.prog 47 #[.pointer (some ⟨p, 0, none⟩), .int .i64 seq, .int .i64 most] w' (EntOut w' (sinceL st1.all seq most))) := fun w' hb' =>
            since_any S7 p _ st1 v7 seq most w' (HF7.out.turned (Turned.of_below (S := fun _ => False) hb') (fun _ _ _ h => h)) (by have := HG1.out.len; have := HK30.out; omega)
          have CRS : Hid (∀ w', Below w7.heap.size w7 w' → Calls Try.prog 48 #[.pointer (some ⟨q, 0, none⟩), .int .i64 seq, .int .i64 most] w' (EntOut w' (sinceL st1.all seq most))) := fun w' hb' =>
            refSince_any T7 q st1 _ seq most w' (HR7.out.below hb') HG1.out.chained (by have := HG1.out.len; have := HK30.out; omega)
          have HSL : Hid ((sinceL st1.all seq most).length ≤ 100000) := by
            have h1 := HG1.out.len
            have h2 := HK30.out
            have h3 := sinceK_len st1.all seq most st1.all.length
            rw [sinceK_all] at h3
            show _ ≤ _
            omega
          have hss : (st1.head.toList == st1.head.toList) = true := by simp
          have hss2 : (st1.head.toList != st1.head.toList) = false := by simp
          obtain ⟨sub, hsub⟩ : ∃ sub, sub = sinceL st1.all seq most := ⟨_, rfl⟩
          obtain ⟨sh, hsh⟩ : ∃ sh, sh = st1.head := ⟨_, rfl⟩
          rw [← hsub] at CSI CRS HSL
          rw [← hsh] at CHD CRH hss hss2
          have CSM : Hid (∀ (a3 : Option Addr) (c3 : Nat) (a4 : Option Addr) (c4 : Nat) (w5 : World), EntsAt w5 a3 sub → EntsAt w5 a4 sub → Calls Try.prog 38 #[.slice a3 sub.length c3, .slice a4 sub.length c4] w5 fun e w' => e = .returned (.bool true) ∧ Below w5.heap.size w5 w') := fun a3 c3 a4 c4 w5 h1 h2 => by
            have h := same39_any sub sub a3 a4 c3 c4 w5 h1 h2 (by have h3 := HSL.out; omega)
            rw [decide_eq_true rfl] at h
            exact h
          clear hf7 hr7 hra hL hsub hsh HF7 HR7 HRA HB7
          go_upto_region 13 with fail
          refine wp_region_puts2 (R := fun qi w' v => if qi = 27 then ∃ a2 c2, v = .slice a2 sub.length c2 ∧ EntsAt w' a2 sub else if qi = 31 then ∃ a2 c2, v = .slice a2 sub.length c2 ∧ EntsAt w' a2 sub else v = [Value.int .i64 r, .int .i64 r, .bool false, .bool false, .pointer (some ⟨p, 0, none⟩), .int .i64 (L : Int), .pointer (some ⟨q, 0, none⟩), .pointer (some ⟨q, 0, none⟩), .pointer (some ⟨q, 0, none⟩), .slice ra L rc, .int .i64 (L : Int), .bool false, .bool false, .bool false, .pointer (some ⟨p, 0, none⟩), .string sh, .pointer (some ⟨q, 0, none⟩), .pointer (some ⟨q, 0, none⟩), .pointer (some ⟨q, 0, none⟩), .slice ra L rc, .string sh, .bool false, .bool false, .bool false, .pointer (some ⟨p, 0, none⟩), .int .i64 seq, .int .i64 most, undef, .pointer (some ⟨q, 0, none⟩), .int .i64 seq, .int .i64 most, undef, .bool true, .bool false, .bool false].getD qi undef)
            (by kernel_rfl) (by kernel_rfl) (by kernel_rfl) ?hRR (by kernel_rfl) (steps_of ?hs) ?hd
          case hRR =>
            intro qi w1 w2 v hb hv
            by_cases h27 : qi = 27
            · rw [if_pos h27] at hv ⊢
              obtain ⟨a2, c2, h1, h2⟩ := hv
              exact ⟨a2, c2, h1, h2.kept hb (Nat.le_refl _)⟩
            rw [if_neg h27] at hv ⊢
            by_cases h31 : qi = 31
            · rw [if_pos h31] at hv ⊢
              obtain ⟨a2, c2, h1, h2⟩ := hv
              exact ⟨a2, c2, h1, h2.kept hb (Nat.le_refl _)⟩
            rw [if_neg h31] at hv ⊢
            exact hv
          case hs =>
            refine ⟨?_, ?_, ?_, ?_, ?_, ?_, ?_, ?_, ?_, ?_, ?_, ?_, ?_, ?_, ?_, ?_, ?_, ?_, ?_, ?_, ?_, ?_, ?_, ?_, ?_, ?_, ?_, ?_, ?_, ?_, ?_, ?_, ?_, ?_, ?_, trivial⟩
            · refine stepOk_value rfl fun a w5 ht => ?_
              have e11 : a.tmps[11]?.getD undef = .int .i64 r := ht.old' 11 (.int .i64 r) (by kernel_rfl) rfl
              exact ⟨Value.int .i64 r, w5, by go_simp, Below.refl _ _, rfl⟩
            · refine stepOk_value rfl fun a w5 ht => ?_
              have e12 : a.tmps[12]?.getD undef = .int .i64 r := ht.old' 12 (.int .i64 r) (by kernel_rfl) rfl
              exact ⟨.int .i64 r, w5, by go_simp, Below.refl _ _, rfl⟩
            · refine stepOk_value rfl fun a w5 ht => ?_
              have e53 : a.tmps[53]?.getD undef = Value.int .i64 r := ht.dep' 0 53 (by kernel_rfl) rfl
              have e54 : a.tmps[54]?.getD undef = .int .i64 r := ht.dep' 1 54 (by kernel_rfl) rfl
              exact ⟨.bool false, w5, by go_simp, Below.refl _ _, rfl⟩
            · refine stepOk_value rfl fun a w5 ht => ?_
              have e55 : a.tmps[55]?.getD undef = .bool false := ht.dep' 2 55 (by kernel_rfl) rfl
              exact ⟨.bool false, w5, by go_simp, Below.refl _ _, rfl⟩
            · refine stepOk_value_guarded 3 56 false rfl (by kernel_rfl) rfl (Nat.le_of_ble_eq_true rfl) (fun w v h => h) fun a w5 ht => ?_
              have e7 : a.tmps[7]?.getD undef = .pointer (some ⟨p, 0, none⟩) := ht.old' 7 (.pointer (some ⟨p, 0, none⟩)) (by kernel_rfl) rfl
              exact ⟨.pointer (some ⟨p, 0, none⟩), w5, by go_simp, Below.refl _ _, rfl⟩
            · refine stepOk_call_guarded 3 56 false rfl (by kernel_rfl) rfl (Nat.le_of_ble_eq_true rfl) (fun w v h => h) fun a w5 ht => ?_
              have e57 : a.tmps[57]?.getD undef = .pointer (some ⟨p, 0, none⟩) := ht.dep' 4 57 (by kernel_rfl) rfl
              refine ⟨45, #[.pointer (some ⟨p, 0, none⟩)], by go_simp, (CLN.out w5 ht.below).mono ?_⟩
              rintro e w' ⟨rfl, hb⟩
              exact ⟨_, rfl, hb, rfl⟩
            · refine stepOk_value_guarded 3 56 false rfl (by kernel_rfl) rfl (Nat.le_of_ble_eq_true rfl) (fun w v h => h) fun a w5 ht => ?_
              have e8 : a.tmps[8]?.getD undef = .pointer (some ⟨q, 0, none⟩) := ht.old' 8 (.pointer (some ⟨q, 0, none⟩)) (by kernel_rfl) rfl
              exact ⟨.pointer (some ⟨q, 0, none⟩), w5, by go_simp, Below.refl _ _, rfl⟩
            · refine stepOk_value_guarded 3 56 false rfl (by kernel_rfl) rfl (Nat.le_of_ble_eq_true rfl) (fun w v h => h) fun a w5 ht => ?_
              have e59 : a.tmps[59]?.getD undef = .pointer (some ⟨q, 0, none⟩) := ht.dep' 6 59 (by kernel_rfl) rfl
              exact ⟨.pointer (some ⟨q, 0, none⟩), w5, by go_simp, Below.refl _ _, rfl⟩
            · refine stepOk_value_guarded 3 56 false rfl (by kernel_rfl) rfl (Nat.le_of_ble_eq_true rfl) (fun w v h => h) fun a w5 ht => ?_
              have e60 : a.tmps[60]?.getD undef = .pointer (some ⟨q, 0, none⟩) := ht.dep' 7 60 (by kernel_rfl) rfl
              exact ⟨.pointer (some ⟨q, 0, none⟩), w5, by go_simp, Below.refl _ _, rfl⟩
            · refine stepOk_value_guarded 3 56 false rfl (by kernel_rfl) rfl (Nat.le_of_ble_eq_true rfl) (fun w v h => h) fun a w5 ht => ?_
              have e61 : a.tmps[61]?.getD undef = .pointer (some ⟨q, 0, none⟩) := ht.dep' 8 61 (by kernel_rfl) rfl
              have hc0 := (ht.below.cell (p := ⟨q, 0, none⟩) (World.block_lt_of_cell? _ _ hcq)).trans hcq
              exact ⟨.slice ra L rc, w5, by go_simp, Below.refl _ _, rfl⟩
            · refine stepOk_value_guarded 3 56 false rfl (by kernel_rfl) rfl (Nat.le_of_ble_eq_true rfl) (fun w v h => h) fun a w5 ht => ?_
              have e62 : a.tmps[62]?.getD undef = .slice ra L rc := ht.dep' 9 62 (by kernel_rfl) rfl
              exact ⟨.int .i64 (L : Int), w5, by go_simp, Below.refl _ _, rfl⟩
            · refine stepOk_value_guarded 3 56 false rfl (by kernel_rfl) rfl (Nat.le_of_ble_eq_true rfl) (fun w v h => h) fun a w5 ht => ?_
              have e58 : a.tmps[58]?.getD undef = .int .i64 (L : Int) := ht.dep' 5 58 (by kernel_rfl) rfl
              have e63 : a.tmps[63]?.getD undef = .int .i64 (L : Int) := ht.dep' 10 63 (by kernel_rfl) rfl
              exact ⟨.bool false, w5, by go_simp, Below.refl _ _, rfl⟩
            · refine stepOk_value rfl fun a w5 ht => ?_
              have e56 : a.tmps[56]?.getD undef = .bool false := ht.dep' 3 56 (by kernel_rfl) rfl
              have e64 : a.tmps[64]?.getD undef = .bool false := ht.dep' 11 64 (by kernel_rfl) rfl
              exact ⟨.bool false, w5, by go_simp, Below.refl _ _, rfl⟩
            · refine stepOk_value rfl fun a w5 ht => ?_
              have e65 : a.tmps[65]?.getD undef = .bool false := ht.dep' 12 65 (by kernel_rfl) rfl
              exact ⟨.bool false, w5, by go_simp, Below.refl _ _, rfl⟩
            · refine stepOk_value_guarded 13 66 false rfl (by kernel_rfl) rfl (Nat.le_of_ble_eq_true rfl) (fun w v h => h) fun a w5 ht => ?_
              have e7 : a.tmps[7]?.getD undef = .pointer (some ⟨p, 0, none⟩) := ht.old' 7 (.pointer (some ⟨p, 0, none⟩)) (by kernel_rfl) rfl
              exact ⟨.pointer (some ⟨p, 0, none⟩), w5, by go_simp, Below.refl _ _, rfl⟩
            · refine stepOk_call_guarded 13 66 false rfl (by kernel_rfl) rfl (Nat.le_of_ble_eq_true rfl) (fun w v h => h) fun a w5 ht => ?_
              have e67 : a.tmps[67]?.getD undef = .pointer (some ⟨p, 0, none⟩) := ht.dep' 14 67 (by kernel_rfl) rfl
              refine ⟨37, #[.pointer (some ⟨p, 0, none⟩)], by go_simp, (CHD.out w5 ht.below).mono ?_⟩
              rintro e w' ⟨rfl, hb⟩
              exact ⟨_, rfl, hb, rfl⟩
            · refine stepOk_value_guarded 13 66 false rfl (by kernel_rfl) rfl (Nat.le_of_ble_eq_true rfl) (fun w v h => h) fun a w5 ht => ?_
              have e8 : a.tmps[8]?.getD undef = .pointer (some ⟨q, 0, none⟩) := ht.old' 8 (.pointer (some ⟨q, 0, none⟩)) (by kernel_rfl) rfl
              exact ⟨.pointer (some ⟨q, 0, none⟩), w5, by go_simp, Below.refl _ _, rfl⟩
            · refine stepOk_value_guarded 13 66 false rfl (by kernel_rfl) rfl (Nat.le_of_ble_eq_true rfl) (fun w v h => h) fun a w5 ht => ?_
              have e69 : a.tmps[69]?.getD undef = .pointer (some ⟨q, 0, none⟩) := ht.dep' 16 69 (by kernel_rfl) rfl
              exact ⟨.pointer (some ⟨q, 0, none⟩), w5, by go_simp, Below.refl _ _, rfl⟩
            · refine stepOk_value_guarded 13 66 false rfl (by kernel_rfl) rfl (Nat.le_of_ble_eq_true rfl) (fun w v h => h) fun a w5 ht => ?_
              have e70 : a.tmps[70]?.getD undef = .pointer (some ⟨q, 0, none⟩) := ht.dep' 17 70 (by kernel_rfl) rfl
              exact ⟨.pointer (some ⟨q, 0, none⟩), w5, by go_simp, Below.refl _ _, rfl⟩
            · refine stepOk_value_guarded 13 66 false rfl (by kernel_rfl) rfl (Nat.le_of_ble_eq_true rfl) (fun w v h => h) fun a w5 ht => ?_
              have e71 : a.tmps[71]?.getD undef = .pointer (some ⟨q, 0, none⟩) := ht.dep' 18 71 (by kernel_rfl) rfl
              have hc0 := (ht.below.cell (p := ⟨q, 0, none⟩) (World.block_lt_of_cell? _ _ hcq)).trans hcq
              exact ⟨.slice ra L rc, w5, by go_simp, Below.refl _ _, rfl⟩
            · refine stepOk_call_guarded 13 66 false rfl (by kernel_rfl) rfl (Nat.le_of_ble_eq_true rfl) (fun w v h => h) fun a w5 ht => ?_
              have e72 : a.tmps[72]?.getD undef = .slice ra L rc := ht.dep' 19 72 (by kernel_rfl) rfl
              refine ⟨46, #[.slice ra L rc], by go_simp, (CRH.out w5 ht.below).mono ?_⟩
              rintro e w' ⟨rfl, hb⟩
              exact ⟨_, rfl, hb, rfl⟩
            · refine stepOk_value_guarded 13 66 false rfl (by kernel_rfl) rfl (Nat.le_of_ble_eq_true rfl) (fun w v h => h) fun a w5 ht => ?_
              have e68 : a.tmps[68]?.getD undef = .string sh := ht.dep' 15 68 (by kernel_rfl) rfl
              have e73 : a.tmps[73]?.getD undef = .string sh := ht.dep' 20 73 (by kernel_rfl) rfl
              exact ⟨.bool false, w5, by go_simp, Below.refl _ _, rfl⟩
            · refine stepOk_value rfl fun a w5 ht => ?_
              have e66 : a.tmps[66]?.getD undef = .bool false := ht.dep' 13 66 (by kernel_rfl) rfl
              have e74 : a.tmps[74]?.getD undef = .bool false := ht.dep' 21 74 (by kernel_rfl) rfl
              exact ⟨.bool false, w5, by go_simp, Below.refl _ _, rfl⟩
            · refine stepOk_value rfl fun a w5 ht => ?_
              have e75 : a.tmps[75]?.getD undef = .bool false := ht.dep' 22 75 (by kernel_rfl) rfl
              exact ⟨.bool false, w5, by go_simp, Below.refl _ _, rfl⟩
            · refine stepOk_value_guarded 23 76 false rfl (by kernel_rfl) rfl (Nat.le_of_ble_eq_true rfl) (fun w v h => h) fun a w5 ht => ?_
              have e7 : a.tmps[7]?.getD undef = .pointer (some ⟨p, 0, none⟩) := ht.old' 7 (.pointer (some ⟨p, 0, none⟩)) (by kernel_rfl) rfl
              exact ⟨.pointer (some ⟨p, 0, none⟩), w5, by go_simp, Below.refl _ _, rfl⟩
            · refine stepOk_value_guarded 23 76 false rfl (by kernel_rfl) rfl (Nat.le_of_ble_eq_true rfl) (fun w v h => h) fun a w5 ht => ?_
              have e1 : a.tmps[1]?.getD undef = .int .i64 seq := ht.old' 1 (.int .i64 seq) (by kernel_rfl) rfl
              exact ⟨.int .i64 seq, w5, by go_simp, Below.refl _ _, rfl⟩
            · refine stepOk_value_guarded 23 76 false rfl (by kernel_rfl) rfl (Nat.le_of_ble_eq_true rfl) (fun w v h => h) fun a w5 ht => ?_
              have e2 : a.tmps[2]?.getD undef = .int .i64 most := ht.old' 2 (.int .i64 most) (by kernel_rfl) rfl
              exact ⟨.int .i64 most, w5, by go_simp, Below.refl _ _, rfl⟩
            · refine stepOk_call_guarded 23 76 false rfl (by kernel_rfl) rfl (Nat.le_of_ble_eq_true rfl) (fun w v h => h) fun a w5 ht => ?_
              have e77 : a.tmps[77]?.getD undef = .pointer (some ⟨p, 0, none⟩) := ht.dep' 24 77 (by kernel_rfl) rfl
              have e78 : a.tmps[78]?.getD undef = .int .i64 seq := ht.dep' 25 78 (by kernel_rfl) rfl
              have e79 : a.tmps[79]?.getD undef = .int .i64 most := ht.dep' 26 79 (by kernel_rfl) rfl
              refine ⟨47, #[.pointer (some ⟨p, 0, none⟩), .int .i64 seq, .int .i64 most], by go_simp, (CSI.out w5 ht.below).mono ?_⟩
              rintro e w' ⟨v, rfl, h1, h2⟩
              obtain ⟨a2, c2, rfl, h3, _⟩ := entsAt_owns h1
              exact ⟨_, rfl, h2, a2, c2, rfl, h3⟩
            · refine stepOk_value_guarded 23 76 false rfl (by kernel_rfl) rfl (Nat.le_of_ble_eq_true rfl) (fun w v h => h) fun a w5 ht => ?_
              have e8 : a.tmps[8]?.getD undef = .pointer (some ⟨q, 0, none⟩) := ht.old' 8 (.pointer (some ⟨q, 0, none⟩)) (by kernel_rfl) rfl
              exact ⟨.pointer (some ⟨q, 0, none⟩), w5, by go_simp, Below.refl _ _, rfl⟩
            · refine stepOk_value_guarded 23 76 false rfl (by kernel_rfl) rfl (Nat.le_of_ble_eq_true rfl) (fun w v h => h) fun a w5 ht => ?_
              have e1 : a.tmps[1]?.getD undef = .int .i64 seq := ht.old' 1 (.int .i64 seq) (by kernel_rfl) rfl
              exact ⟨.int .i64 seq, w5, by go_simp, Below.refl _ _, rfl⟩
            · refine stepOk_value_guarded 23 76 false rfl (by kernel_rfl) rfl (Nat.le_of_ble_eq_true rfl) (fun w v h => h) fun a w5 ht => ?_
              have e2 : a.tmps[2]?.getD undef = .int .i64 most := ht.old' 2 (.int .i64 most) (by kernel_rfl) rfl
              exact ⟨.int .i64 most, w5, by go_simp, Below.refl _ _, rfl⟩
            · refine stepOk_call_guarded 23 76 false rfl (by kernel_rfl) rfl (Nat.le_of_ble_eq_true rfl) (fun w v h => h) fun a w5 ht => ?_
              have e81 : a.tmps[81]?.getD undef = .pointer (some ⟨q, 0, none⟩) := ht.dep' 28 81 (by kernel_rfl) rfl
              have e82 : a.tmps[82]?.getD undef = .int .i64 seq := ht.dep' 29 82 (by kernel_rfl) rfl
              have e83 : a.tmps[83]?.getD undef = .int .i64 most := ht.dep' 30 83 (by kernel_rfl) rfl
              refine ⟨48, #[.pointer (some ⟨q, 0, none⟩), .int .i64 seq, .int .i64 most], by go_simp, (CRS.out w5 ht.below).mono ?_⟩
              rintro e w' ⟨v, rfl, h1, h2⟩
              obtain ⟨a2, c2, rfl, h3, _⟩ := entsAt_owns h1
              exact ⟨_, rfl, h2, a2, c2, rfl, h3⟩
            · refine stepOk_call_guarded 23 76 false rfl (by kernel_rfl) rfl (Nat.le_of_ble_eq_true rfl) (fun w v h => h) fun a w5 ht => ?_
              have e80 : ∃ a2 c2, a.tmps[80]?.getD undef = .slice a2 sub.length c2 ∧ EntsAt w5 a2 sub := ht.dep' 27 80 (by kernel_rfl) rfl
              have e84 : ∃ a2 c2, a.tmps[84]?.getD undef = .slice a2 sub.length c2 ∧ EntsAt w5 a2 sub := ht.dep' 31 84 (by kernel_rfl) rfl
              obtain ⟨a3, c3, e80, h80⟩ := e80
              obtain ⟨a4, c4, e84, h84⟩ := e84
              refine ⟨38, #[.slice a3 sub.length c3, .slice a4 sub.length c4], by go_simp, (CSM.out a3 c3 a4 c4 w5 h80 h84).mono ?_⟩
              rintro e w' ⟨rfl, hb⟩
              exact ⟨_, rfl, hb, rfl⟩
            · refine stepOk_value_guarded 23 76 false rfl (by kernel_rfl) rfl (Nat.le_of_ble_eq_true rfl) (fun w v h => h) fun a w5 ht => ?_
              have e85 : a.tmps[85]?.getD undef = .bool true := ht.dep' 32 85 (by kernel_rfl) rfl
              exact ⟨.bool false, w5, by go_simp, Below.refl _ _, rfl⟩
            · refine stepOk_value rfl fun a w5 ht => ?_
              have e76 : a.tmps[76]?.getD undef = .bool false := ht.dep' 23 76 (by kernel_rfl) rfl
              have e86 : a.tmps[86]?.getD undef = .bool false := ht.dep' 33 86 (by kernel_rfl) rfl
              exact ⟨.bool false, w5, by go_simp, Below.refl _ _, rfl⟩
          case hd =>
            intro vs w8 hl hb8 hvs
            have hl : vs.length = 35 := hl
            obtain ⟨v0, r0, rfl, l0⟩ := uncons vs hl
            obtain ⟨v1, r1, rfl, l1⟩ := uncons r0 l0
            obtain ⟨v2, r2, rfl, l2⟩ := uncons r1 l1
            obtain ⟨v3, r3, rfl, l3⟩ := uncons r2 l2
            obtain ⟨v4, r4, rfl, l4⟩ := uncons r3 l3
            obtain ⟨v5, r5, rfl, l5⟩ := uncons r4 l4
            obtain ⟨v6, r6, rfl, l6⟩ := uncons r5 l5
            obtain ⟨v7, r7, rfl, l7⟩ := uncons r6 l6
            obtain ⟨v8, r8, rfl, l8⟩ := uncons r7 l7
            obtain ⟨v9, r9, rfl, l9⟩ := uncons r8 l8
            obtain ⟨v10, r10, rfl, l10⟩ := uncons r9 l9
            obtain ⟨v11, r11, rfl, l11⟩ := uncons r10 l10
            obtain ⟨v12, r12, rfl, l12⟩ := uncons r11 l11
            obtain ⟨v13, r13, rfl, l13⟩ := uncons r12 l12
            obtain ⟨v14, r14, rfl, l14⟩ := uncons r13 l13
            obtain ⟨v15, r15, rfl, l15⟩ := uncons r14 l14
            obtain ⟨v16, r16, rfl, l16⟩ := uncons r15 l15
            obtain ⟨v17, r17, rfl, l17⟩ := uncons r16 l16
            obtain ⟨v18, r18, rfl, l18⟩ := uncons r17 l17
            obtain ⟨v19, r19, rfl, l19⟩ := uncons r18 l18
            obtain ⟨v20, r20, rfl, l20⟩ := uncons r19 l19
            obtain ⟨v21, r21, rfl, l21⟩ := uncons r20 l20
            obtain ⟨v22, r22, rfl, l22⟩ := uncons r21 l21
            obtain ⟨v23, r23, rfl, l23⟩ := uncons r22 l22
            obtain ⟨v24, r24, rfl, l24⟩ := uncons r23 l23
            obtain ⟨v25, r25, rfl, l25⟩ := uncons r24 l24
            obtain ⟨v26, r26, rfl, l26⟩ := uncons r25 l25
            obtain ⟨v27, r27, rfl, l27⟩ := uncons r26 l26
            obtain ⟨v28, r28, rfl, l28⟩ := uncons r27 l27
            obtain ⟨v29, r29, rfl, l29⟩ := uncons r28 l28
            obtain ⟨v30, r30, rfl, l30⟩ := uncons r29 l29
            obtain ⟨v31, r31, rfl, l31⟩ := uncons r30 l30
            obtain ⟨v32, r32, rfl, l32⟩ := uncons r31 l31
            obtain ⟨v33, r33, rfl, l33⟩ := uncons r32 l32
            obtain ⟨v34, r34, rfl, l34⟩ := uncons r33 l33
            obtain rfl := List.eq_nil_of_length_eq_zero l34
            have h34 : v34 = .bool false := hvs 34 (by decide)
            subst h34
            clear hvs
            simp only [puts, List.map, go_sem, List.setIfInBounds_toArray, List.set_cons_succ, List.set_cons_zero]
            have HB9 : Hid (Below X w w8) := HB13.out.trans (hb8.mono (by have h1 := HP7.out.low; exact h1))
            have HP9 := Lib.hid (HP7.out.kept hb8)
            clear hb8 HP7 HB13 CLN CHD CRH CSI CRS CSM hcq hss hss2
            go_wp2_with fail
            go_roundw
            case rel => exact ⟨k + 1, by omega, by go_num, ⟨st1, A, HG1.out, HP9.out⟩, HB9⟩
            case measure => simp [intOf]; omega
    · obtain rfl : k = n := by omega
      clear hlt HG
      have HXW : Hid (X ≤ w.heap.size) := by show X ≤ _; rw [HX.out]; exact Nat.le_refl _
      have hee : (ByteArray.empty.toList == []) = true := by decide +kernel
      go_wp2_with fail
      refine (add_nil _ _ _ _).mono ?_
      rintro e w6 ⟨rfl, hb⟩
      have HE6 : Hid (Below w.heap.size w w6) := by
        have h1 : Below w.heap.size w wr := HX.out ▸ HBE.out
        have h2 := h1.alloc h1.size (.cells #[.string ⟨#[97]⟩] 9)
        exact h2.trans (hb.mono h2.size)
      clear hb HBE
      go_wp2_with fail
      refine (take_nil _ _ _ _ _).mono ?_
      rintro e w7 ⟨rfl, hb⟩
      have HE7 : Hid (Below w.heap.size w w7) := HE6.out.trans (hb.mono HE6.out.size)
      clear hb HE6
      go_wp2_with fail
      refine (len_nil _).mono ?_
      rintro e w8 ⟨rfl, hb⟩
      have HE8 : Hid (Below w.heap.size w w8) := HE7.out.trans (hb.mono HE7.out.size)
      clear hb HE7
      go_wp2_with fail
      refine (head_nil _).mono ?_
      rintro e w9 ⟨rfl, hb⟩
      have HE9 : Hid (Below w.heap.size w w9) := HE8.out.trans (hb.mono HE8.out.size)
      clear hb HE8
      go_wp2_with fail
      refine (since_nil _ _ _).mono ?_
      rintro e w10 ⟨rfl, hb⟩
      have HE10 : Hid (Below w.heap.size w w10) := HE9.out.trans (hb.mono HE9.out.size)
      clear hb HE9
      go_wp2_with fail
      refine (len_any _ 0 0 none ByteArray.empty 77 _ (heap_alloc_new w10 _)).mono ?_
      rintro e w11 ⟨rfl, rfl⟩
      have HE11 : Hid (Below w.heap.size w (w10.alloc (.cells #[.slice none 0 0, .string ByteArray.empty] 77))) := HE10.out.alloc HE10.out.size _
      clear HE10
      go_wp2_with fail
      refine (awake39_any _).mono ?_
      rintro e w12 ⟨rfl, hb⟩
      have HE12 : Hid (Below w.heap.size w w12) := HE11.out.trans (hb.mono HE11.out.size)
      clear hb HE11
      go_wp2_with fail
      go_ret
      exact ⟨rfl, HE12.out⟩
theorem feedPlays_walk (ao : Option Addr) (cap : Nat) (xs : List Fd.Act) (seq most : Int) (w : World) (hc : ActsAt w ao xs) (hl : (xs.length : Int) ≤ 9223372036854775807) (_ : -9223372036854775808 ≤ seq ∧ seq ≤ 9223372036854775807) (_ : -9223372036854775808 ≤ most ∧ most ≤ 9223372036854775807) :
    Calls Try.prog 11 #[.slice ao xs.length cap, .int .i64 seq, .int .i64 most] w fun e w' => e = .returned (.bool true) ∧ Below w.heap.size w w' := by
  have C := few39_any xs ao cap w hc hl
  cases hf : fewA 0 xs with
  | false => rw [hf] at C; exact plays_no ao xs.length cap seq most w C
  | true => rw [hf] at C; exact plays_yes sum_law ⟨shaB_size, fun s hs w => refSum_any s hs w⟩ xs ao cap seq most w hc hf C
end Go.Proofs.Ytbajgpbekanodaa
