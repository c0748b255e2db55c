/- The walks over pandectlaw39's made and all. -/
import Derived.Test.YtbajgpbekanodaaFeedAwake
namespace Go.Proofs.Ytbajgpbekanodaa
open Go.RowKit

/-- What made weighs. -/
def wgt (l : List ByteArray) : Nat := (l.map fun s => min s.size 20000 + 100).sum
def madeB (l : List ByteArray) : Bool := decide (wgt l ≤ 15000) && !(l.any isBig)
theorem wgt_append (a b : List ByteArray) : wgt (a ++ b) = wgt a + wgt b := by unfold wgt; rw [List.map_append, List.sum_append]
theorem wgt_take (l : List ByteArray) (k : Nat) (h : k < l.length) : wgt (l.take (k + 1)) = wgt (l.take k) + (min (l.getD k ByteArray.empty).size 20000 + 100) := by
  rw [List.take_succ_eq_append_getElem h, wgt_append, getD_lt l k h]
  simp [wgt]
theorem wgt_le (l : List ByteArray) (k : Nat) : wgt (l.take k) ≤ wgt l := by
  have := wgt_append (l.take k) (l.drop k)
  rw [List.take_append_drop] at this
  omega
theorem wgt_len (l : List ByteArray) : 100 * l.length ≤ wgt l := by
  induction l with
  | nil => simp [wgt]
  | cons x l ih =>
    have : wgt (x :: l) = (min x.size 20000 + 100) + wgt l := by simp [wgt]
    rw [this, List.length_cons]
    omega
theorem madeB_yes {l : List ByteArray} (h : madeB l = true) : wgt l ≤ 15000 ∧ l.any isBig = false ∧ l.length ≤ 150 := by
  unfold madeB at h
  simp only [Bool.and_eq_true, decide_eq_true_eq, Bool.not_eq_true'] at h
  have := wgt_len l
  exact ⟨h.1, h.2, by omega⟩
theorem any_part {a b : List ByteArray} (h : ∀ s ∈ a, s ∈ b) (hb : b.any isBig = false) : a.any isBig = false := by
  rw [List.any_eq_false] at hb ⊢
  exact fun s hs => hb s (h s hs)
theorem madeB_take {l : List ByteArray} (h : madeB l = true) (k : Nat) : madeB (l.take k) = true := by
  obtain ⟨h1, h2, _⟩ := madeB_yes h
  unfold madeB
  rw [any_part (fun s hs => List.mem_of_mem_take hs) h2, decide_eq_true (Nat.le_trans (wgt_le l k) h1)]
  rfl
theorem not_big {l : List ByteArray} (h : l.any isBig = false) : ∀ s ∈ l, s.size ≤ 8000 := fun s hs => by
  have h1 := List.any_eq_false.1 h s hs
  unfold isBig at h1
  have h2 : ¬ (8000 : Int) < (s.size : Int) := by simpa using h1
  omega
theorem since_zero' (es : List Fd.Ent) (most : Int) (h : (es.length : Int) ≤ most) (hm : 1 ≤ most) : sinceL es 0 most = es := by
  unfold sinceL
  by_cases h1 : (es.length : Int) ≤ 0
  · rw [if_pos (Or.inl h1)]
    exact (List.eq_nil_of_length_eq_zero (by omega)).symm
  · rw [if_neg (by omega), show (max (0 : Int) 0).toNat = 0 from rfl, List.drop_zero, List.take_of_length_le (by omega)]

def MadeOut (H : ByteArray → ByteArray) (l : List ByteArray) (w : World) (e : Ending) (w' : World) : Prop :=
  if madeB l = true then ∃ p v, e = .returned (.tuple #[.pointer (some ⟨p, 0, none⟩), .bool true]) ∧ FeedIn (fun k => w.heap.size ≤ k) p 77 (runs H l) v w' ∧ Below w.heap.size w w'
  else ∃ x, e = .returned (.tuple #[x, .bool false]) ∧ Below w.heap.size w w'

set_option maxRecDepth 100000 in
set_option maxHeartbeats 4000000 in
theorem made_any {H : ByteArray → ByteArray} (hS : SumLaw H) (l : List ByteArray) (ao : Option Addr) (cap : Nat) (w : World) (hf : StrsFit l cap) (hc : StrsAt w ao l) :
    Calls Try.prog 32 #[.slice ao l.length cap] w (MadeOut H l w) := by
  have hm : (l.length : Int) ≤ 9223372036854775807 := by have h1 := hf.1; have h2 := hf.2.1; unfold maxLen at h2; omega
  obtain ⟨n, hn⟩ : ∃ n, n = l.length := ⟨_, rfl⟩
  have HN := Lib.hid hn
  rw [← hn] at hm ⊢
  have HF := Lib.hid hf
  have HC := Lib.hid hc
  clear hf hc hn
  go_enter Try.func32, Try.ntmps32
  go_wp2_with fail
  go_loop [4, 5] (fun t i => ∃ k T : Nat, (k : Int) ≤ (n : Int) ∧ t = .int .i64 (T : Int) ∧ i = .int .i64 (k : Int) ∧ (T : Int) ≤ 15000 ∧ Hid (T = wgt (l.take k))) (fun _ i => n - (intOf i).toNat)
  case atStart => exact ⟨0, 0, by omega, rfl, rfl, by omega, rfl⟩
  case round =>
    obtain ⟨k, T, hk, rfl, rfl, hT, HT⟩ := hrel
    by_cases hlt : (k : Int) < (n : Int)
    · have hkl : k < l.length := by have := HN.out; omega
      obtain ⟨b, off, rfl, hb, hcell⟩ := HC.out k hkl
      have hsm := getD_fit HF.out k
      have HJ := Lib.hid (wgt_take l k hkl)
      generalize l.getD k ByteArray.empty = s at *
      unfold maxLen at hsm
      clear hkl
      go_wp2_with fail
      case roundEnd =>
        have h : (T : Int) + (min (s.size : Int) 20000 + 100) ≤ 15000 := by assumption
        go_round
        case rel =>
          refine ⟨k + 1, T + (min s.size 20000 + 100), by omega, by go_num, by go_num, by omega, ?_⟩
          show _ = _
          rw [HJ.out]
          have := HT.out
          omega
        case measure => simp [intOf]; omega
      all_goals
        go_ret2
        unfold MadeOut
        rw [if_neg]
        · exact ⟨_, rfl, Below.refl _ _⟩
        · intro h
          have h1 := (madeB_yes h).1
          have h2 := wgt_le l (k + 1)
          have h3 := HJ.out
          have h4 := HT.out
          omega
    · obtain rfl : k = n := by omega
      have HW : Hid (wgt l ≤ 15000) := by
        have h1 := HT.out
        rw [HN.out, List.take_length] at h1
        show wgt l ≤ 15000
        omega
      clear hlt HT hT
      go_wp2_with fail
      refine (new_any _).mono ?_
      rintro e w1 ⟨rfl, hf1, hb1⟩
      have HF1 := Lib.hid (hf1.reS (T := fun k => k = w.heap.size) rfl (fun k hk => by cases hk))
      have HB1 := Lib.hid hb1
      have HC1 := Lib.hid (HC.out.kept hb1 (Nat.le_refl _))
      clear hf1 hb1
      cases hbg : l.any isBig with
      | true =>
        go_wp2_with fail
        have CA := add_big l ao cap w.heap.size w1 (by have := HN.out; omega) HC1.out hbg
        rw [← HN.out] at CA
        refine CA.mono ?_
        rintro e w2 ⟨rfl, hb2⟩
        have HB2 := Lib.hid (HB1.out.trans (hb2.mono HB1.out.size))
        clear hb2 CA
        go_wp2_with fail
        go_ret2
        unfold MadeOut
        rw [if_neg (by unfold madeB; rw [hbg]; simp)]
        exact ⟨_, rfl, HB2.out⟩
      | false =>
        go_wp2_with fail
        have hwl := wgt_len l
        have CA := add_any hS l ao cap (fun k => k = w.heap.size) w.heap.size 77 stE _ w1 (by have := HW.out; show 0 + l.length ≤ _; omega) (by decide) HF1.out HC1.out (fun b off h1 h0 h2 => by obtain ⟨b', off', h3, h4, _⟩ := HC.out 0 h0; rw [h1] at h3; cases h3; omega) hbg
        rw [← HN.out] at CA
        refine CA.mono ?_
        rintro e w2 ⟨rfl, v2, hf2, ht2⟩
        have HF2 := Lib.hid (hf2.reS (T := fun k => w.heap.size ≤ k) (Nat.le_refl _) (fun k hk => by
          rcases hf2.mine.2 k hk with h | h
          · omega
          · have := HB1.out.size; omega))
        have HB2 := Lib.hid (HB1.out.trans (ht2.below (fun k hk => by omega) HB1.out.size))
        clear hf2 ht2 CA hwl
        go_wp2_with fail
        go_ret2
        unfold MadeOut
        rw [if_pos (by unfold madeB; rw [hbg, decide_eq_true HW.out]; rfl)]
        exact ⟨_, _, rfl, HF2.out, HB2.out⟩
set_option maxRecDepth 100000 in
set_option maxHeartbeats 1000000 in
theorem all39_any {S : Nat → Prop} {p : Nat} {t : TypeId} {st : Fd.State} {v : Value} {w : World} (hf : FeedIn S p t st v w) (hl : st.all.length ≤ 100000) :
    Calls Try.prog 35 #[.pointer (some ⟨p, 0, none⟩)] w (EntOut w st.all) := by
  have C := Lib.hid (since_any S p t st v 0 100000 w hf (by omega))
  rw [since_zero' st.all 100000 (by omega) (by omega)] at C
  clear hf hl
  go_enter Try.func35, Try.ntmps35
  go_wp2_with fail
  refine C.out.mono ?_
  rintro e w1 ⟨v1, rfl, h1, h2⟩
  have H1 := Lib.hid h1
  clear h1
  go_wp2_with fail
  go_ret
  exact ⟨v1, rfl, H1.out, h2⟩
end Go.Proofs.Ytbajgpbekanodaa
