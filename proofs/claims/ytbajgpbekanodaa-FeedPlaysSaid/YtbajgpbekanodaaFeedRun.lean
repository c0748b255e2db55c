/- Feeds of bodies, in plain Lean: what a mirror takes of a feed. -/
import Derived.Test.YtbajgpbekanodaaFeedTake
namespace Go.Proofs.Ytbajgpbekanodaa
open Go.RowKit

def stE : Fd.State := ⟨[], ByteArray.empty⟩
/-- The feed of bodies. -/
def runs (H : ByteArray → ByteArray) (bs : List ByteArray) : Fd.State := stE.adds H bs
theorem adds_append (H : ByteArray → ByteArray) (st : Fd.State) (a b : List ByteArray) : st.adds H (a ++ b) = (st.adds H a).adds H b := by
  unfold Fd.State.adds; exact List.foldl_append
theorem adds_more (H : ByteArray → ByteArray) (bs : List ByteArray) : ∀ st : Fd.State, ∃ X, (st.adds H bs).all = st.all ++ X := by
  induction bs with
  | nil => intro st; exact ⟨[], by simp [Fd.State.adds]⟩
  | cons b bs ih =>
    intro st
    obtain ⟨X, h⟩ := ih (st.push H (st.next b))
    refine ⟨st.next b :: X, ?_⟩
    show ((st.push H (st.next b)).adds H bs).all = _
    rw [h]
    show (st.all ++ [st.next b]) ++ X = _
    simp
theorem runs_len (H : ByteArray → ByteArray) (bs : List ByteArray) : (runs H bs).all.length = bs.length := by
  unfold runs; rw [adds_len]; simp [stE]
theorem runs_head (H : ByteArray → ByteArray) (hH : ∀ s, (H s).size = 32) (bs : List ByteArray) : (runs H bs).head.size ≤ 32 :=
  adds_head H hH bs stE (by show (0 : Nat) ≤ 32; omega)
theorem runs_succ (H : ByteArray → ByteArray) (bs : List ByteArray) (k : Nat) (h : k < bs.length) : runs H (bs.take (k + 1)) = (runs H (bs.take k)).push H ((runs H (bs.take k)).next (bs.getD k ByteArray.empty)) :=
  adds_take H stE bs k h
/-- The feed's entry number i. -/
def entOf (H : ByteArray → ByteArray) (bs : List ByteArray) (i : Nat) : Fd.Ent := (runs H (bs.take i)).next (bs.getD i ByteArray.empty)
theorem entOf_seq (H : ByteArray → ByteArray) (bs : List ByteArray) (i : Nat) (h : i ≤ bs.length) : (entOf H bs i).seq = (i : Int) + 1 := by
  show ((runs H (bs.take i)).all.length : Int) + 1 = _
  rw [runs_len, List.length_take, Nat.min_eq_left h]
theorem runs_drop (H : ByteArray → ByteArray) (bs : List ByteArray) (i : Nat) (h : i < bs.length) : (runs H bs).all.drop i = entOf H bs i :: (runs H bs).all.drop (i + 1) := by
  have e : runs H bs = (runs H (bs.take (i + 1))).adds H (bs.drop (i + 1)) := by
    unfold runs
    rw [← adds_append, List.take_append_drop]
  obtain ⟨X, hX⟩ := adds_more H (bs.drop (i + 1)) (runs H (bs.take (i + 1)))
  have hA : (runs H bs).all = (runs H (bs.take i)).all ++ ([entOf H bs i] ++ X) := by
    rw [e, hX, runs_succ H bs i h]
    show ((runs H (bs.take i)).all ++ [entOf H bs i]) ++ X = _
    rw [List.append_assoc]
  have hl : (runs H (bs.take i)).all.length = i := by rw [runs_len, List.length_take]; omega
  rw [hA, List.drop_append_of_le_length (by omega), List.drop_of_length_le (by omega)]
  have : (runs H (bs.take i)).all ++ ([entOf H bs i] ++ X) = ((runs H (bs.take i)).all ++ [entOf H bs i]) ++ X := by rw [List.append_assoc]
  rw [this, List.drop_append_of_le_length (by rw [List.length_append, hl]; simp), List.drop_of_length_le (by rw [List.length_append, hl]; simp)]
  simp
theorem runs_get (H : ByteArray → ByteArray) (bs : List ByteArray) (i : Nat) (h : i < bs.length) : (runs H bs).all.getD i Ent0 = entOf H bs i := by
  have h1 := runs_drop H bs i h
  have h2 : ((runs H bs).all.drop i).getD 0 Ent0 = (runs H bs).all.getD i Ent0 := by simp [List.getD]
  rw [← h2, h1]
  simp
theorem rest_own (H : ByteArray → ByteArray) (bs : List ByteArray) (n k : Nat) (hk : k ≤ n) (hn : n ≤ bs.length) : restOf n ((runs H bs).all.drop k) = n - k := by
  have hg : ∀ j, k + j < bs.length → (((runs H bs).all.drop k).getD j Ent0).seq = ((k + j : Nat) : Int) + 1 := fun j hj => by
    have : ((runs H bs).all.drop k).getD j Ent0 = (runs H bs).all.getD (k + j) Ent0 := by simp [List.getD]
    rw [this, runs_get H bs _ hj, entOf_seq H bs _ (by omega)]
  have hl : ((runs H bs).all.drop k).length = bs.length - k := by rw [List.length_drop, runs_len]
  by_cases h : n = bs.length
  · rw [rest_all (fun j hj => by rw [hl] at hj; rw [hg j (by omega)]; omega), hl]
    omega
  · exact rest_at (by rw [hl]; omega) (fun j hj => by rw [hg j (by omega)]; omega) (by rw [hg (n - k) (by omega)]; omega)
theorem goOn_own (H : ByteArray → ByteArray) (bs : List ByteArray) (hb : bs.any isBig = false) : ∀ (c n : Nat), n + c = bs.length → goOn H (runs H (bs.take n)) ((runs H bs).all.drop n) = some (runs H bs) := by
  intro c
  induction c with
  | zero =>
    intro n h
    rw [List.drop_of_length_le (by rw [runs_len]; omega), List.take_of_length_le (by omega)]
    rfl
  | succ c ih =>
    intro n h
    have hn : n < bs.length := by omega
    rw [runs_drop H bs n hn]
    unfold goOn
    have hbg : isBig (entOf H bs n).body = false := by
      have h1 := List.any_eq_false.1 hb (bs.getD n ByteArray.empty) (by rw [getD_lt bs n hn]; exact List.getElem_mem hn)
      show isBig (bs.getD n ByteArray.empty) = false
      simpa using h1
    rw [if_pos ⟨rfl, hbg⟩]
    have := ih (n + 1) (by omega)
    rw [runs_succ H bs n hn] at this
    exact this
/-- A mirror that has the first entries of a feed, given the feed's entries from one that it has on. -/
theorem take_own (H : ByteArray → ByteArray) (bs : List ByteArray) (hb : bs.any isBig = false) (n k : Nat) (hk : k ≤ n) (hn : n ≤ bs.length) : takeR H (runs H (bs.take n)) (runs H bs).head ((runs H bs).all.drop k) = (runs H bs, 0) := by
  unfold takeR
  have hl : (runs H (bs.take n)).all.length = n := by rw [runs_len, List.length_take]; omega
  rw [hl, rest_own H bs n k hk hn, List.length_drop, runs_len]
  by_cases h : n = bs.length
  · subst h
    rw [if_pos (Nat.le_refl _), List.take_length, if_pos rfl]
  · rw [if_neg (by omega), List.drop_drop, show k + (n - k) = n by omega, goOn_own H bs hb (bs.length - n) n (by omega)]
    simp
theorem since_own (H : ByteArray → ByteArray) (bs : List ByteArray) (seq most : Int) (h : (bs.length : Int) ≤ most) (hm : 1 ≤ most) : sinceL (runs H bs).all seq most = (runs H bs).all.drop (max seq 0).toNat := by
  unfold sinceL
  rw [runs_len]
  by_cases h1 : (bs.length : Int) ≤ seq
  · rw [if_pos (Or.inl h1), List.drop_of_length_le (by rw [runs_len]; omega)]
  · rw [if_neg (by omega), List.take_of_length_le (by rw [List.length_drop, runs_len]; omega)]
theorem entOf_size (H : ByteArray → ByteArray) (hH : ∀ s, (H s).size = 32) (bs : List ByteArray) (hb : ∀ s ∈ bs, s.size ≤ 1073741824) (i : Nat) (hi : i < bs.length) (hl : bs.length ≤ 1000000) : (entOf H bs i).ok := by
  refine ⟨?_, ?_, ?_, ?_, ?_⟩
  · rw [entOf_seq H bs i (by omega)]; omega
  · rw [entOf_seq H bs i (by omega)]; omega
  · show (runs H (bs.take i)).head.size ≤ _
    have := runs_head H hH (bs.take i)
    omega
  · show (bs.getD i ByteArray.empty).size ≤ _
    rw [getD_lt bs i hi]
    have h2 := hb _ (List.getElem_mem hi)
    omega
  · show (runs H (bs.take i)).head.size + (bs.getD i ByteArray.empty).size ≤ _
    have h1 := runs_head H hH (bs.take i)
    rw [getD_lt bs i hi]
    have h2 := hb _ (List.getElem_mem hi)
    omega
theorem runs_ok (H : ByteArray → ByteArray) (hH : ∀ s, (H s).size = 32) (bs : List ByteArray) (hb : ∀ s ∈ bs, s.size ≤ 1073741824) (hl : bs.length ≤ 1000000) : ∀ e ∈ (runs H bs).all, e.ok := by
  intro e he
  obtain ⟨i, hi, rfl⟩ := List.getElem_of_mem he
  rw [runs_len] at hi
  have := runs_get H bs i hi
  rw [show (runs H bs).all[i]'(by rw [runs_len]; exact hi) = (runs H bs).all.getD i Ent0 by simp [List.getD, runs_len, hi], this]
  exact entOf_size H hH bs hb i hi hl
/-! ### Memory -/
theorem Turned.cell {S : Nat → Prop} {w w' : World} (h : Turned S w w') {b o : Nat} (hb : b < w.heap.size) (hn : ¬ S b) : w'.cell? ⟨b, o, none⟩ = w.cell? ⟨b, o, none⟩ := by
  simp [World.cell?, h.block b hb hn]
theorem EntsAt.turned {S : Nat → Prop} {w w' : World} {a : Option Addr} {es : List Fd.Ent} (h : EntsAt w a es) (ht : Turned S w w') (hn : ∀ b off, a = some ⟨b, off, none⟩ → ¬ S b) : EntsAt w' a es := fun i hi => by
  obtain ⟨b, off, rfl, hb, h0, h1, h2⟩ := h i hi
  have hx := hn b off rfl
  exact ⟨b, off, rfl, Nat.lt_of_lt_of_le hb ht.size, (ht.cell hb hx).trans h0, (ht.cell hb hx).trans h1, (ht.cell hb hx).trans h2⟩
theorem one_ent {w : World} {X : Nat} {v : Value} {e : Fd.Ent} (h : w.ownsRow X 82 3 v 1 (Fd.flat [e])) : ∃ g cap, v = .slice (some ⟨g, 0, none⟩) 1 cap ∧ X ≤ g ∧ EntsAt w (some ⟨g, 0, none⟩) [e] ∧ EntAt w g 0 e ∧ g < w.heap.size ∧ 1 ≤ cap ∧ cap ≤ maxLen := by
  have h' : w.ownsRow X 82 3 v [e].length (Fd.flat [e]) := h
  obtain ⟨ao, cap, rfl, hat, h1, h2⟩ := entsAt_owns h'
  rcases h.2 with ⟨hn, h3⟩ | ⟨g, c, cur, h3, hb, hg, rest⟩
  · simp at h3
  · injection h3 with h4 h5 h6
    subst h4
    obtain ⟨b, off, hbo, hlt, hc⟩ := hat 0 (by simp)
    cases hbo
    exact ⟨g, cap, rfl, hb, hat, hc, hlt, h1, h2⟩
theorem FeedIn.reS {S T : Nat → Prop} {p : Nat} {t : TypeId} {st : Fd.State} {v : Value} {w : World} (h : FeedIn S p t st v w) (hp : T p) (hd : ∀ k, v.ownBlock = some k → T k) : FeedIn T p t st v w := ⟨h.at_, h.own, h.ne, hp, hd⟩
theorem len_feed {S : Nat → Prop} {p : Nat} {t : TypeId} {st : Fd.State} {v : Value} {w : World} (h : FeedIn S p t st v w) (x : Int) (hx : (st.all.length : Int) = x) :
    Calls Try.prog 45 #[.pointer (some ⟨p, 0, none⟩)] w fun e w' => e = .returned (.int .i64 x) ∧ w' = w := by
  obtain ⟨ao, cp, rfl, _⟩ := h.form
  rw [← hx]
  exact len_any p _ cp ao _ t w h.at_
theorem head_feed {S : Nat → Prop} {p : Nat} {t : TypeId} {st : Fd.State} {v : Value} {w : World} (h : FeedIn S p t st v w) :
    Calls Try.prog 37 #[.pointer (some ⟨p, 0, none⟩)] w fun e w' => e = .returned (.string st.head) ∧ w' = w := head_any p v st.head t w h.at_
end Go.Proofs.Ytbajgpbekanodaa
