/- Two feeds in memory that share no block. -/
import Derived.Test.YtbajgpbekanodaaFeedMade
namespace Go.Proofs.Ytbajgpbekanodaa
open Go.RowKit

structure Two (X p q : Nat) (s1 s2 : Fd.State) (w : World) : Prop where
  both : ∃ (v u : Value) (S T : Nat → Prop), FeedIn S p 77 s1 v w ∧ FeedIn T q 77 s2 u w ∧ (∀ k, S k → k < w.heap.size) ∧ (∀ k, T k → k < w.heap.size) ∧ (∀ k, S k → ¬ T k) ∧ (∀ k, S k → X ≤ k) ∧ (∀ k, T k → X ≤ k)
  low : X ≤ w.heap.size
theorem FeedIn.exact {S : Nat → Prop} {p : Nat} {t : TypeId} {st : Fd.State} {v : Value} {w : World} (h : FeedIn S p t st v w) : FeedIn (fun k => S k ∧ k < w.heap.size) p t st v w :=
  h.reS ⟨h.mine.1, h.lt⟩ fun k hk => ⟨h.mine.2 k hk, (h.own.lt k hk).2⟩
theorem Two.kept {X p q : Nat} {s1 s2 : Fd.State} {w w' : World} (h : Two X p q s1 s2 w) (hb : Below w.heap.size w w') : Two X p q s1 s2 w' := by
  obtain ⟨v, u, S, T, h1, h2, h3, h4, h5, h6, h7⟩ := h.both
  refine ⟨⟨v, u, S, T, h1.turned (Turned.of_below (S := fun _ => False) hb) (fun _ _ _ h => h), h2.turned (Turned.of_below (S := fun _ => False) hb) (fun _ _ _ h => h), fun k hk => Nat.lt_of_lt_of_le (h3 k hk) hb.size, fun k hk => Nat.lt_of_lt_of_le (h4 k hk) hb.size, h5, h6, h7⟩, Nat.le_trans h.low hb.size⟩
theorem Two.left {X p q : Nat} {s1 s2 : Fd.State} {w : World} (h : Two X p q s1 s2 w) : ∃ S v, FeedIn S p 77 s1 v w := by
  obtain ⟨v, _, S, _, h1, _⟩ := h.both
  exact ⟨S, v, h1⟩
theorem Two.right {X p q : Nat} {s1 s2 : Fd.State} {w : World} (h : Two X p q s1 s2 w) : ∃ S v, FeedIn S q 77 s2 v w := by
  obtain ⟨_, u, _, T, _, h2, _⟩ := h.both
  exact ⟨T, u, h2⟩
/-- A feed, and one made behind it. -/
theorem Two.make {X p q : Nat} {s1 s2 : Fd.State} {v u : Value} {w w' : World} (h : FeedIn (fun k => X ≤ k) p 77 s1 v w) (hX : X ≤ w.heap.size) (hb : Below w.heap.size w w') (k : FeedIn (fun k => w.heap.size ≤ k) q 77 s2 u w') : Two X p q s1 s2 w' :=
  ⟨⟨v, u, _, _, h.exact.turned (Turned.of_below (S := fun _ => False) hb) (fun _ _ _ h => h), k.exact, fun i hi => Nat.lt_of_lt_of_le hi.2 hb.size, fun i hi => hi.2, fun i hi ht => by have h1 := hi.2; have h2 := ht.1; omega, fun i hi => hi.1, fun i hi => Nat.le_trans hX hi.1⟩, Nat.le_trans hX hb.size⟩
theorem two_head1 {X p q : Nat} {s1 s2 : Fd.State} {w : World} (h : Two X p q s1 s2 w) : Calls Try.prog 37 #[.pointer (some ⟨p, 0, none⟩)] w fun e w' => e = .returned (.string s1.head) ∧ w' = w := by
  obtain ⟨_, _, hf⟩ := h.left; exact head_feed hf
theorem two_head2 {X p q : Nat} {s1 s2 : Fd.State} {w : World} (h : Two X p q s1 s2 w) : Calls Try.prog 37 #[.pointer (some ⟨q, 0, none⟩)] w fun e w' => e = .returned (.string s2.head) ∧ w' = w := by
  obtain ⟨_, _, hf⟩ := h.right; exact head_feed hf
theorem two_len2 {X p q : Nat} {s1 s2 : Fd.State} {w : World} (h : Two X p q s1 s2 w) (x : Int) (hx : (s2.all.length : Int) = x) : Calls Try.prog 45 #[.pointer (some ⟨q, 0, none⟩)] w fun e w' => e = .returned (.int .i64 x) ∧ w' = w := by
  obtain ⟨_, _, hf⟩ := h.right; exact len_feed hf x hx
theorem two_since1 {X p q : Nat} {s1 s2 : Fd.State} {w : World} (h : Two X p q s1 s2 w) (seq most : Int) (hn : s1.all.length ≤ 1000000) : Calls Try.prog 47 #[.pointer (some ⟨p, 0, none⟩), .int .i64 seq, .int .i64 most] w (EntOut w (sinceL s1.all seq most)) := by
  obtain ⟨S, v, hf⟩ := h.left; exact since_any S p _ s1 v seq most w hf hn
theorem two_all1 {X p q : Nat} {s1 s2 : Fd.State} {w : World} (h : Two X p q s1 s2 w) (hn : s1.all.length ≤ 100000) : Calls Try.prog 35 #[.pointer (some ⟨p, 0, none⟩)] w (EntOut w s1.all) := by
  obtain ⟨S, v, hf⟩ := h.left; exact all39_any hf hn
theorem two_all2 {X p q : Nat} {s1 s2 : Fd.State} {w : World} (h : Two X p q s1 s2 w) (hn : s2.all.length ≤ 100000) : Calls Try.prog 35 #[.pointer (some ⟨q, 0, none⟩)] w (EntOut w s2.all) := by
  obtain ⟨S, v, hf⟩ := h.right; exact all39_any hf hn
theorem two_add1 {H : ByteArray → ByteArray} (hS : SumLaw H) {X p q : Nat} {s1 s2 : Fd.State} {w : World} (h : Two X p q s1 s2 w) (l : List ByteArray) (ao : Option Addr) (cap : Nat) (hl : s1.all.length + l.length ≤ 1000000) (hh : s1.head.size ≤ 32) (hc : StrsAt w ao l)
    (hsep : ∀ b off, ao = some ⟨b, off, none⟩ → 0 < l.length → b < X) (hb : l.any isBig = false) :
    Calls Try.prog 43 #[.pointer (some ⟨p, 0, none⟩), .slice ao l.length cap] w fun e w' => e = .returned (.int .i64 0) ∧ Two X p q (s1.adds H l) s2 w' ∧ Below X w w' := by
  obtain ⟨v, u, S, T, h1, h2, h3, h4, h5, h6, h7⟩ := h.both
  refine (add_any hS l ao cap S p _ s1 v w hl hh h1 hc (fun b off hb h0 hs => by have := h6 b hs; have := hsep b off hb h0; omega) hb).mono ?_
  rintro e w' ⟨rfl, v', hf, ht⟩
  refine ⟨rfl, ⟨⟨v', u, _, T, hf.exact, h2.turned ht (fun k hk _ hs => h5 k hs hk), fun k hk => hk.2, fun k hk => Nat.lt_of_lt_of_le (h4 k hk) ht.size, fun k hk ht2 => ?_, fun k hk => ?_, h7⟩, Nat.le_trans h.low ht.size⟩, ht.below h6 h.low⟩
  · rcases hk.1 with h | h
    · exact h5 k h ht2
    · have := h4 k ht2; omega
  · rcases hk.1 with h' | h'
    · exact h6 k h'
    · exact Nat.le_trans h.low h'
theorem two_take2c {H : ByteArray → ByteArray} (hS : SumLaw H) {X p q : Nat} {s1 s2 : Fd.State} {w : World} (h : Two X p q s1 s2 w) (head : ByteArray) (es : List Fd.Ent) (eo : Option Addr) (cap : Nat) (hfit : es.length ≤ cap ∧ cap ≤ maxLen) (hc : EntsAt w eo es) (hl : s2.all.length + es.length ≤ 1000000) (hh : s2.head.size ≤ 32) :
    Calls Try.prog 36 #[.pointer (some ⟨q, 0, none⟩), .string head, .slice eo es.length cap] w fun e w' => e = .returned (.int .i64 (takeR H s2 head es).2) ∧ Two X p q s1 (takeR H s2 head es).1 w' ∧ Below X w w' := by
  obtain ⟨v, u, S, T, h1, h2, h3, h4, h5, h6, h7⟩ := h.both
  refine (take_cap hS T q s2 u head es eo cap w h2 hfit hc hl hh).mono ?_
  rintro e w' ⟨rfl, v', hf, ht⟩
  refine ⟨rfl, ⟨⟨v, v', S, _, h1.turned ht (fun k hk _ hq => h5 k hk (by rw [hq]; exact h2.mine.1)), hf.exact, fun k hk => Nat.lt_of_lt_of_le (h3 k hk) ht.size, fun k hk => hk.2, fun k hk ht2 => ?_, h6, fun k hk => ?_⟩, Nat.le_trans h.low ht.size⟩, ht.below (fun k hk => by rw [hk]; exact h7 q h2.mine.1) h.low⟩
  · rcases ht2.1 with h | h
    · exact h5 k hk h
    · have := h3 k hk; omega
  · rcases hk.1 with h' | h'
    · exact h7 k h'
    · exact Nat.le_trans h.low h'
theorem two_take2 {H : ByteArray → ByteArray} (hS : SumLaw H) {X p q : Nat} {s1 s2 : Fd.State} {w : World} (h : Two X p q s1 s2 w) (head : ByteArray) (es : List Fd.Ent) (eo : Option Addr) (cap : Nat) (hfit : EntsFit es cap) (hc : EntsAt w eo es) (hl : s2.all.length + es.length ≤ 1000000) (hh : s2.head.size ≤ 32) :
    Calls Try.prog 36 #[.pointer (some ⟨q, 0, none⟩), .string head, .slice eo es.length cap] w fun e w' => e = .returned (.int .i64 (takeR H s2 head es).2) ∧ Two X p q s1 (takeR H s2 head es).1 w' ∧ Below X w w' :=
  two_take2c hS h head es eo cap ⟨hfit.1, hfit.2.1⟩ hc hl hh
end Go.Proofs.Ytbajgpbekanodaa
namespace Go.Proofs.Ytbajgpbekanodaa
open Go.RowKit

def IntsAt (w : World) (zo : Option Addr) (zs : List Int) : Prop :=
  ∀ i, i < zs.length → (∃ b off, zo = some ⟨b, off, none⟩ ∧ b < w.heap.size ∧ w.cell? ⟨b, off + i, none⟩ = some (.int .i64 (zs.getD i 0))) ∧ -9223372036854775808 ≤ zs.getD i 0 ∧ zs.getD i 0 ≤ 9223372036854775807
/-- The part from lo to hi. -/
def part (l : List ByteArray) (lo hi : Nat) : List ByteArray := (l.take hi).drop lo
theorem part_len (l : List ByteArray) (lo hi : Nat) (h : hi ≤ l.length) : (part l lo hi).length = hi - lo := by
  unfold part; rw [List.length_drop, List.length_take]; omega
theorem part_get (l : List ByteArray) (lo hi i : Nat) (hi' : i < hi - lo) : (part l lo hi).getD i ByteArray.empty = l.getD (lo + i) ByteArray.empty := by
  unfold part
  rw [List.getD_eq_getElem?_getD, List.getD_eq_getElem?_getD, List.getElem?_drop, List.getElem?_take_of_lt (by omega)]
theorem take_part (l : List ByteArray) (lo hi : Nat) (h : lo ≤ hi) : l.take hi = l.take lo ++ part l lo hi := by
  unfold part
  have := List.take_append_drop lo (l.take hi)
  rw [List.take_take, Nat.min_eq_left h] at this
  exact this.symm
theorem part_mem {l : List ByteArray} {lo hi : Nat} {s : ByteArray} (h : s ∈ part l lo hi) : s ∈ l := List.mem_of_mem_take (List.mem_of_mem_drop h)
theorem part_fit {l : List ByteArray} {cap : Nat} (h : StrsFit l cap) (lo hi : Nat) (h1 : hi ≤ l.length) : StrsFit (part l lo hi) (cap - lo) := by
  obtain ⟨a, b, c⟩ := h
  refine ⟨by rw [part_len l lo hi h1]; omega, by omega, fun s hs => c s (part_mem hs)⟩
theorem part_at {w : World} {ao : Option Addr} {l : List ByteArray} (h : StrsAt w ao l) (lo hi : Nat) (h1 : hi ≤ l.length) (bo : Option Addr) (hb : ∀ b off, ao = some ⟨b, off, none⟩ → lo < hi → bo = some ⟨b, off + lo, none⟩) : StrsAt w bo (part l lo hi) := by
  intro i hi'
  rw [part_len l lo hi h1] at hi'
  obtain ⟨b, off, ha, hlt, hc⟩ := h (lo + i) (by omega)
  refine ⟨b, off + lo, hb b off ha (by omega), hlt, ?_⟩
  rw [part_get l lo hi i hi', show off + lo + i = off + (lo + i) by omega]
  exact hc
theorem runs_part (H : ByteArray → ByteArray) (l : List ByteArray) (lo hi : Nat) (h : lo ≤ hi) : runs H (l.take hi) = (runs H (l.take lo)).adds H (part l lo hi) := by
  rw [take_part l lo hi h]; exact adds_append H stE _ _
theorem any_join {l : List ByteArray} {lo hi : Nat} (h : lo ≤ hi) (h1 : (l.take lo).any isBig = false) (h2 : (part l lo hi).any isBig = false) : (l.take hi).any isBig = false := by
  rw [take_part l lo hi h, List.any_append, h1, h2]; rfl
end Go.Proofs.Ytbajgpbekanodaa
