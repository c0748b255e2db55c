/- The walks over feed's big, slices.IndexFunc and ContainsFunc over texts, Feed.Add. -/
import Derived.Test.YtbajgpbekanodaaFeedNext
namespace Go.Proofs.Ytbajgpbekanodaa
open Go.RowKit

def isBig (s : ByteArray) : Bool := decide ((8000 : Int) < (s.size : Int))
set_option maxRecDepth 100000 in
set_option maxHeartbeats 1000000 in
theorem big_any (s : ByteArray) (w : World) :
    Calls Try.prog 68 #[.string s] w fun e w' => e = .returned (.bool (isBig s)) ∧ w' = w := by
  unfold isBig
  go_enter Try.func68, Try.ntmps68
  go_wp2_with fail
  go_ret
  exact ⟨rfl, rfl⟩
theorem getD_lt (l : List ByteArray) (k : Nat) (h : k < l.length) : l.getD k ByteArray.empty = l[k] := by simp [List.getD, h]
def IdxOut (l : List ByteArray) (e : Ending) : Prop := ∃ r : Int, e = .returned (.int .i64 r) ∧ ((0 ≤ r ∧ l.any isBig = true) ∨ (r = -1 ∧ l.any isBig = false))
set_option maxRecDepth 100000 in
set_option maxHeartbeats 1000000 in
theorem indexStr_any (l : List ByteArray) (ao : Option Addr) (cap : Nat) (w : World) (hl : (l.length : Int) ≤ 9223372036854775807) (hc : StrsAt w ao l) :
    Calls Try.prog 88 #[.slice ao l.length cap, .func (.func 68) #[] #[]] w fun e w' => IdxOut l e ∧ Below w.heap.size w w' := by
  obtain ⟨n, hn⟩ : ∃ n, n = l.length := ⟨_, rfl⟩
  have HN := Lib.hid hn
  have HC := Lib.hid hc
  rw [← hn] at hl ⊢
  clear hn hc
  go_enter Try.func88, Try.ntmps88
  go_wp2_with fail
  go_loopw [5, 8] (fun _ i wr => ∃ k : Nat, (k : Int) ≤ (n : Int) ∧ i = .int .i64 (k : Int) ∧ Hid (∀ j, j < k → isBig (l.getD j ByteArray.empty) = false) ∧ Hid (Below w.heap.size w wr)) (fun _ i _ => n - (intOf i).toNat)
  case atStart => exact ⟨0, by omega, rfl, fun j hj => absurd hj (Nat.not_lt_zero _), Below.refl _ _⟩
  case round =>
    obtain ⟨k, hk, rfl, HNB, HBE⟩ := hrel
    have hk0 : (0 : Int) ≤ (k : Int) := Int.natCast_nonneg _
    by_cases hlt : (k : Int) < (n : Int)
    · have hkl : k < l.length := by rw [← HN.out]; omega
      obtain ⟨b, off, rfl, hbl, hcell0⟩ := HC.out k hkl
      have hcell := (HBE.out.cell (p := ⟨b, off + k, none⟩) hbl).trans hcell0
      have CB := Lib.hid (fun w => big_any (l.getD k ByteArray.empty) w)
      cases hb : isBig (l.getD k ByteArray.empty) with
      | true =>
        rw [hb] at CB
        have HY : Hid (l.any isBig = true) := by
          have e := getD_lt l k hkl
          exact List.any_eq_true.2 ⟨l[k], List.getElem_mem hkl, by rw [← e]; exact hb⟩
        clear hb hkl hcell0 HNB
        generalize l.getD k ByteArray.empty = s at *
        go_wp2_with fail
        refine (CB.out _).mono ?_
        rintro e w1 ⟨rfl, rfl⟩
        go_wp2_with fail
        go_ret
        exact ⟨⟨_, rfl, Or.inl ⟨hk0, HY.out⟩⟩, HBE.out⟩
      | false =>
        rw [hb] at CB
        have HNB2 : Hid (∀ j, j < k + 1 → isBig (l.getD j ByteArray.empty) = false) := fun j hj => by
          by_cases h : j < k
          · exact HNB.out j h
          · obtain rfl : j = k := by omega
            exact hb
        clear hb hkl hcell0 HNB
        generalize l.getD k ByteArray.empty = s at *
        go_wp2_with fail
        refine (CB.out _).mono ?_
        rintro e w1 ⟨rfl, rfl⟩
        go_wp2_with fail
        go_roundw
        case rel => exact ⟨k + 1, by omega, by go_num, HNB2, HBE⟩
        case measure => simp [intOf]; omega
    · obtain rfl : k = n := by omega
      have HNO : Hid (l.any isBig = false) := by
        refine List.any_eq_false.2 fun s hs => ?_
        obtain ⟨j, hj, rfl⟩ := List.getElem_of_mem hs
        have e := getD_lt l j hj
        have := HNB.out j (by rw [HN.out]; exact hj)
        rw [e] at this
        simp [this]
      clear hlt
      go_wp2_with fail
      go_ret
      exact ⟨⟨-1, rfl, Or.inr ⟨rfl, HNO.out⟩⟩, HBE.out⟩
set_option maxRecDepth 100000 in
set_option maxHeartbeats 1000000 in
theorem contains_any (l : List ByteArray) (ao : Option Addr) (cap : Nat) (w : World) (hl : (l.length : Int) ≤ 9223372036854775807) (hc : StrsAt w ao l) :
    Calls Try.prog 73 #[.slice ao l.length cap, .func (.func 68) #[] #[]] w fun e w' => e = .returned (.bool (l.any isBig)) ∧ Below w.heap.size w w' := by
  have C := Lib.hid (indexStr_any l ao cap w hl hc)
  generalize l.length = n at *
  clear hc
  go_enter Try.func73, Try.ntmps73
  go_wp2_with fail
  refine C.out.mono ?_
  rintro e w1 ⟨⟨r, rfl, hr⟩, hb⟩
  rcases hr with ⟨hr, hy⟩ | ⟨rfl, hy⟩
  · go_wp2_with fail
    go_ret
    exact ⟨by rw [hy]; rfl, hb⟩
  · go_wp2_with fail
    go_ret
    exact ⟨by rw [hy]; rfl, hb⟩

/-! ### Add -/
def Fd.State.adds (H : ByteArray → ByteArray) (st : Fd.State) (bs : List ByteArray) : Fd.State := bs.foldl (fun st b => st.push H (st.next b)) st
theorem adds_take (H : ByteArray → ByteArray) (st : Fd.State) (bs : List ByteArray) (k : Nat) (h : k < bs.length) : st.adds H (bs.take (k + 1)) = (st.adds H (bs.take k)).push H ((st.adds H (bs.take k)).next (bs.getD k ByteArray.empty)) := by
  unfold Fd.State.adds
  rw [List.take_succ_eq_append_getElem h, List.foldl_append, getD_lt bs k h]
  rfl
theorem adds_len (H : ByteArray → ByteArray) (bs : List ByteArray) : ∀ st : Fd.State, (st.adds H bs).all.length = st.all.length + bs.length := by
  induction bs with
  | nil => intro st; rfl
  | cons b bs ih =>
    intro st
    show ((st.push H (st.next b)).adds H bs).all.length = _
    rw [ih]
    show (st.all ++ [_]).length + _ = _
    simp
    omega
theorem adds_head (H : ByteArray → ByteArray) (hH : ∀ s, (H s).size = 32) (bs : List ByteArray) : ∀ st : Fd.State, st.head.size ≤ 32 → (st.adds H bs).head.size ≤ 32 := by
  induction bs with
  | nil => intro st h; exact h
  | cons b bs ih =>
    intro st h
    exact ih (st.push H (st.next b)) (by show (H _).size ≤ 32; rw [hH]; exact Nat.le_refl _)
theorem any_out {l : List ByteArray} (h : l.any isBig = false) (k : Nat) (hk : k < l.length) : (l.getD k ByteArray.empty).size ≤ 8000 := by
  have h1 := List.any_eq_false.1 h (l.getD k ByteArray.empty) (by rw [getD_lt l k hk]; exact List.getElem_mem hk)
  unfold isBig at h1
  have h2 : ¬ (8000 : Int) < ((l.getD k ByteArray.empty).size : Int) := by simpa using h1
  omega

set_option maxRecDepth 100000 in
set_option maxHeartbeats 2000000 in
theorem add_big (l : List ByteArray) (ao : Option Addr) (cap p : Nat) (w : World) (hl : (l.length : Int) ≤ 9223372036854775807) (hc : StrsAt w ao l) (hb : l.any isBig = true) :
    Calls Try.prog 43 #[.pointer (some ⟨p, 0, none⟩), .slice ao l.length cap] w fun e w' => e = .returned (.int .i64 3) ∧ Below w.heap.size w w' := by
  have C := Lib.hid (fun cap => contains_any l ao cap w hl hc)
  rw [hb] at C
  generalize l.length = n at *
  clear hc hb
  go_enter Try.func43, Try.ntmps43
  go_wp2_with fail
  refine (C.out _).mono ?_
  rintro e w1 ⟨rfl, hb⟩
  go_wp2_with fail
  go_ret
  exact ⟨rfl, hb⟩
set_option maxRecDepth 100000 in
set_option maxHeartbeats 2000000 in
theorem add_any {H : ByteArray → ByteArray} (hS : SumLaw H) (l : List ByteArray) (ao : Option Addr) (cap : Nat) (S : Nat → Prop) (p : Nat) (t : TypeId) (st : Fd.State) (v : Value) (w : World) (hl : st.all.length + l.length ≤ 1000000) (hh : st.head.size ≤ 32) (hf : FeedIn S p t st v w) (hc : StrsAt w ao l)
    (hsep : ∀ b off, ao = some ⟨b, off, none⟩ → 0 < l.length → ¬ S b) (hb : l.any isBig = false) :
    Calls Try.prog 43 #[.pointer (some ⟨p, 0, none⟩), .slice ao l.length cap] w fun e w' => e = .returned (.int .i64 0) ∧ ∃ v', FeedIn (fun k => S k ∨ w.heap.size ≤ k) p t (st.adds H l) v' w' ∧ Turned S w w' := by
  have C := Lib.hid (fun cap => contains_any l ao cap w (by omega) hc)
  rw [hb] at C
  have HB := Lib.hid (fun k hk => any_out hb k hk)
  obtain ⟨n, hn⟩ : ∃ n, n = l.length := ⟨_, rfl⟩
  have HN := Lib.hid hn
  have HC := Lib.hid hc
  have HF := Lib.hid hf
  have HL : Hid (st.all.length + n ≤ 1000000) := by rw [hn]; exact hl
  have HH := Lib.hid hh
  have HSEP := Lib.hid hsep
  have HALL : Hid (st.adds H l = st.adds H (l.take n)) := by show _ = _; rw [hn, List.take_length]
  rw [← hn] at C ⊢
  have hn6 : (n : Int) ≤ 1000000 := by omega
  clear hn hc hf hl hh hsep hb
  go_enter Try.func43, Try.ntmps43
  go_wp2_with fail
  refine (C.out _).mono ?_
  rintro e w1 ⟨rfl, hb1⟩
  have HT1 : Hid (Turned S w w1) := Turned.of_below hb1
  have HF1 : Hid (∃ v', FeedIn (fun k => S k ∨ w.heap.size ≤ k) p t (st.adds H (l.take 0)) v' w1) :=
    ⟨v, by
      have h := HF.out.turned (Turned.of_below (S := fun _ => False) hb1) (fun _ _ _ h => h)
      exact ⟨h.at_, h.own, h.ne, Or.inl h.mine.1, fun k hk => Or.inl (h.mine.2 k hk)⟩⟩
  clear hb1 C
  go_wp2_with fail
  go_loopw [6, 13] (fun _ i wr => ∃ k : Nat, (k : Int) ≤ (n : Int) ∧ i = .int .i64 (k : Int) ∧ Hid (∃ v', FeedIn (fun k => S k ∨ w.heap.size ≤ k) p t (st.adds H (l.take k)) v' wr) ∧ Hid (Turned S w wr)) (fun _ i _ => n - (intOf i).toNat)
  case atStart => exact ⟨0, by omega, rfl, HF1, HT1⟩
  case round =>
    clear HF1 HT1
    obtain ⟨k, hk, rfl, HFk, HTk⟩ := hrel
    have hk0 : (0 : Int) ≤ (k : Int) := Int.natCast_nonneg _
    by_cases hlt : (k : Int) < (n : Int)
    · have hkl : k < l.length := by rw [← HN.out]; omega
      obtain ⟨b, off, rfl, hbl, hcell0⟩ := HC.out k hkl
      have hcell : wr.cell? ⟨b, off + k, none⟩ = some (.string (l.getD k ByteArray.empty)) := (World.cell?_of_block (HTk.out.block b hbl (HSEP.out b off rfl (by omega)))).trans hcell0
      have HS8 := Lib.hid (HB.out k hkl)
      have HADD := Lib.hid (adds_take H st l k hkl)
      have HLEN : Hid ((st.adds H (l.take k)).all.length ≤ 1000000) := by
        show _ ≤ _
        rw [adds_len, List.length_take]
        have := HL.out
        omega
      have HHD := Lib.hid (adds_head H hS.1 (l.take k) st HH.out)
      clear hcell0 hkl
      generalize st.adds H (l.take k) = sk at *
      generalize l.getD k ByteArray.empty = s at *
      obtain ⟨v', hfk⟩ := HFk.out
      obtain ⟨ak, ck, hvk, _⟩ := hfk.form
      subst hvk
      have HFK := Lib.hid hfk
      have CN := Lib.hid (fun w' (hb' : Below wr.heap.size wr w') => next_any s sk.head p sk.all.length ck ak t w' ((hb'.block p HFK.out.lt).trans HFK.out.at_) HLEN.out)
      have CP : Hid (∀ w', Below wr.heap.size wr w' → Calls Try.prog 69 #[.pointer (some ⟨p, 0, none⟩), .agg #[.int .i64 ((sk.all.length : Int) + 1), .string sk.head, .string s]] w' fun r w'' => r = .returned (.tuple #[]) ∧ ∃ v', FeedIn (fun k => (S k ∨ w.heap.size ≤ k) ∨ w'.heap.size ≤ k) p t (sk.push H (sk.next s)) v' w'' ∧ Turned (fun k => S k ∨ w.heap.size ≤ k) w' w'') := fun w' hb' => by
        have h := push_any hS (sk.next s) (by
          have h1 := HLEN.out
          have h2 := HS8.out
          have h3 := HHD.out
          exact ⟨by show -9223372036854775808 ≤ (sk.all.length : Int) + 1; omega, by show (sk.all.length : Int) + 1 ≤ _; omega, by show sk.head.size ≤ _; omega, by show s.size ≤ _; omega, by show sk.head.size + s.size ≤ _; omega⟩) (fun k => S k ∨ w.heap.size ≤ k) p t sk _ w' (HFK.out.turned (Turned.of_below (S := fun _ => False) hb') (fun _ _ _ h => h)) HLEN.out
        exact h
      clear hfk HFk
      go_wp2_with fail
      refine wp_region_tail 8 (R := fun qi w' v => v = [Value.pointer (some ⟨p, 0, none⟩), .pointer (some ⟨p, 0, none⟩), .pointer (some ⟨p, 0, none⟩), .pointer (some ⟨p, 0, none⟩), .pointer (some ⟨p, 0, none⟩), .pointer (some ⟨p, 0, none⟩), .string s, .agg #[.int .i64 ((sk.all.length : Int) + 1), .string sk.head, .string s]].getD qi undef)
        (by kernel_rfl) (by kernel_rfl) (by kernel_rfl) (of_decide_eq_true (by kernel_rfl)) (by kernel_rfl) (by kernel_rfl) (by kernel_rfl) (by kernel_rfl) ?hRR (by kernel_rfl) (steps_of ?hs) ?hd
      case hRR =>
        intro qi w1 w2 v hb hv
        exact hv
      case hs =>
        refine ⟨?_, ?_, ?_, ?_, ?_, ?_, ?_, ?_, trivial⟩
        · refine stepOk_value rfl fun a w5 ht => ?_
          have e0 : a.tmps[0]?.getD undef = .pointer (some ⟨p, 0, none⟩) := ht.old' 0 (.pointer (some ⟨p, 0, none⟩)) (by kernel_rfl) rfl
          exact ⟨Value.pointer (some ⟨p, 0, none⟩), w5, by go_simp, Below.refl _ _, rfl⟩
        · refine stepOk_value rfl fun a w5 ht => ?_
          have e17 : a.tmps[17]?.getD undef = Value.pointer (some ⟨p, 0, none⟩) := ht.dep' 0 17 (by kernel_rfl) rfl
          exact ⟨.pointer (some ⟨p, 0, none⟩), w5, by go_simp, Below.refl _ _, rfl⟩
        · refine stepOk_value rfl fun a w5 ht => ?_
          have e18 : a.tmps[18]?.getD undef = .pointer (some ⟨p, 0, none⟩) := ht.dep' 1 18 (by kernel_rfl) rfl
          exact ⟨.pointer (some ⟨p, 0, none⟩), w5, by go_simp, Below.refl _ _, rfl⟩
        · refine stepOk_value rfl fun a w5 ht => ?_
          have e0 : a.tmps[0]?.getD undef = .pointer (some ⟨p, 0, none⟩) := ht.old' 0 (.pointer (some ⟨p, 0, none⟩)) (by kernel_rfl) rfl
          exact ⟨.pointer (some ⟨p, 0, none⟩), w5, by go_simp, Below.refl _ _, rfl⟩
        · refine stepOk_value rfl fun a w5 ht => ?_
          have e20 : a.tmps[20]?.getD undef = .pointer (some ⟨p, 0, none⟩) := ht.dep' 3 20 (by kernel_rfl) rfl
          exact ⟨.pointer (some ⟨p, 0, none⟩), w5, by go_simp, Below.refl _ _, rfl⟩
        · refine stepOk_value rfl fun a w5 ht => ?_
          have e21 : a.tmps[21]?.getD undef = .pointer (some ⟨p, 0, none⟩) := ht.dep' 4 21 (by kernel_rfl) rfl
          exact ⟨.pointer (some ⟨p, 0, none⟩), w5, by go_simp, Below.refl _ _, rfl⟩
        · refine stepOk_value rfl fun a w5 ht => ?_
          have e6 : a.tmps[6]?.getD undef = .string s := ht.old' 6 (.string s) (by kernel_rfl) rfl
          exact ⟨.string s, w5, by go_simp, Below.refl _ _, rfl⟩
        · refine stepOk_call rfl fun a w5 ht => ?_
          have e22 : a.tmps[22]?.getD undef = .pointer (some ⟨p, 0, none⟩) := ht.dep' 5 22 (by kernel_rfl) rfl
          have e23 : a.tmps[23]?.getD undef = .string s := ht.dep' 6 23 (by kernel_rfl) rfl
          refine ⟨67, #[.pointer (some ⟨p, 0, none⟩), .string s], by go_simp, (CN.out w5 ht.below).mono ?_⟩
          rintro e w' ⟨rfl, hb⟩
          exact ⟨_, rfl, hb, rfl⟩
      case hd =>
        intro vs w8 hl hb8 hvs
        have hl : vs.length = 8 := hl
        obtain ⟨v0, r0, rfl, l0⟩ := uncons vs hl
        obtain ⟨v1, r1, rfl, l1⟩ := uncons r0 l0
        obtain ⟨v2, r2, rfl, l2⟩ := uncons r1 l1
        obtain ⟨v3, r3, rfl, l3⟩ := uncons r2 l2
        obtain ⟨v4, r4, rfl, l4⟩ := uncons r3 l3
        obtain ⟨v5, r5, rfl, l5⟩ := uncons r4 l4
        obtain ⟨v6, r6, rfl, l6⟩ := uncons r5 l5
        obtain ⟨v7, r7, rfl, l7⟩ := uncons r6 l6
        obtain rfl := List.eq_nil_of_length_eq_zero l7
        have h2 : v2 = .pointer (some ⟨p, 0, none⟩) := hvs 2 (by decide)
        subst h2
        have h7 : v7 = .agg #[.int .i64 ((sk.all.length : Int) + 1), .string sk.head, .string s] := hvs 7 (by decide)
        subst h7
        clear hvs
        simp only [puts, List.map, List.take_succ_cons, List.take_zero, List.drop_succ_cons, List.drop_zero, go_sem, List.setIfInBounds_toArray, List.set_cons_succ, List.set_cons_zero]
        go_wp2_with fail
        refine (CP.out _ hb8).mono ?_
        rintro e w9 ⟨rfl, v9, hf9, ht9⟩
        have HF9 : Hid (∃ v', FeedIn (fun k => S k ∨ w.heap.size ≤ k) p t (st.adds H (l.take (k + 1))) v' w9) := by
          rw [HADD.out]
          refine ⟨v9, hf9.at_, hf9.own, hf9.ne, Or.inl HF.out.mine.1, fun i hi => ?_⟩
          rcases hf9.mine.2 i hi with h | h
          · exact h
          · right
            have h1 := HTk.out.size
            have h2 := hb8.size
            omega
        have HT9 : Hid (Turned S w w9) := (HTk.out.andThen (Turned.of_below (S := S) hb8) (fun i hi => Or.inl hi)).andThen ht9 (fun i hi => hi)
        clear hf9 ht9 hb8 CN CP HFK HTk HADD hcell HS8 HHD HLEN
        go_wp2_with fail
        go_roundw
        case rel => exact ⟨k + 1, by omega, by go_num, HF9, HT9⟩
        case measure => simp [intOf]; omega
    · obtain rfl : k = n := by omega
      clear hlt
      go_wp2_with fail
      go_ret
      refine ⟨rfl, ?_⟩
      rw [HALL.out]
      obtain ⟨v', h⟩ := HFk.out
      exact ⟨v', h, HTk.out⟩
end Go.Proofs.Ytbajgpbekanodaa
