/- The walks over octets.TakeNumber and the document's TakeNumber. -/
import Derived.Test.YtbhadaiijcdlkaaOctNum
import Derived.Deep.QuietTactic
import Derived.BigQuiet
namespace Go.Proofs.Ytbhadaiijcdlkaa
open Go.RowKit

set_option maxHeartbeats 400000 in
theorem take_more (s : ByteArray) (ba bs bh p : Nat) (w : World) (hs : s.size ≤ maxLen) (hp : p < s.size) (h1 : w.cell? ⟨ba, 0, none⟩ = some (.int .i64 (p : Int))) (h2 : w.cell? ⟨bs, 0, none⟩ = some (.string s)) (hne : ba ≠ bs)
    (hf : w.frozen? ⟨ba, 0, none⟩ = false) :
    Calls Try.prog 40 #[.pointer (some ⟨ba, 0, none⟩), .pointer (some ⟨bs, 0, none⟩), .pointer (some ⟨bh, 0, none⟩)] w fun e w' => e = .returned (.int .u8 (s[p].toNat : Int)) ∧ w.setCell ⟨ba, 0, none⟩ (.int .i64 ((p : Int) + 1)) = w' := by
  unfold maxLen at hs
  go_enter Try.func40, Try.ntmps40
  go_wp2
  go_ret
  exact ⟨rfl, rfl⟩

set_option maxHeartbeats 400000 in
theorem take_end (s : ByteArray) (ba bs bh : Nat) (b : Bool) (w : World) (h1 : w.cell? ⟨ba, 0, none⟩ = some (.int .i64 (s.size : Int))) (h2 : w.cell? ⟨bs, 0, none⟩ = some (.string s)) (h3 : w.cell? ⟨bh, 0, none⟩ = some (.bool b))
    (hf : w.frozen? ⟨bh, 0, none⟩ = false) :
    Calls Try.prog 40 #[.pointer (some ⟨ba, 0, none⟩), .pointer (some ⟨bs, 0, none⟩), .pointer (some ⟨bh, 0, none⟩)] w fun e w' => e = .returned (.int .u8 0) ∧ w.setCell ⟨bh, 0, none⟩ (.bool true) = w' := by
  go_enter Try.func40, Try.ntmps40
  go_wp2
  go_ret
  exact ⟨rfl, rfl⟩

theorem Below.drewN {B : Nat} {a w : World} (h : Below B a w) (n : Nat) : Below B a (w.drewN n) := ⟨h.os, h.tape, h.output, h.size, h.block⟩

/-- What TakeNumber's three boxes hold: the string, the place, whether it was short. -/
structure Boxes (B : Nat) (s : ByteArray) (p : Nat) (h : Bool) (w : World) : Prop where
  str : w.cell? ⟨B, 0, none⟩ = some (.string s)
  at_ : w.cell? ⟨B + 1, 0, none⟩ = some (.int .i64 (p : Int))
  short : w.cell? ⟨B + 1 + 1, 0, none⟩ = some (.bool h)
  f1 : w.frozen? ⟨B + 1, 0, none⟩ = false
  f2 : w.frozen? ⟨B + 1 + 1, 0, none⟩ = false

theorem Boxes.next {B : Nat} {s : ByteArray} {p : Nat} {h : Bool} {w : World} (k : Boxes B s p h w) : Boxes B s (p + 1) h (w.setCell ⟨B + 1, 0, none⟩ (.int .i64 ((p : Int) + 1))) := by
  refine ⟨?_, ?_, ?_, by rw [World.frozen?_setCell]; exact k.f1, by rw [World.frozen?_setCell]; exact k.f2⟩
  · rw [World.cell?_setCell_other w _ _ _ (by simp)]; exact k.str
  · rw [World.cell?_setCell_same w _ _ k.at_]; simp
  · rw [World.cell?_setCell_other w _ _ _ (by simp)]; exact k.short
theorem Boxes.ended {B : Nat} {s : ByteArray} {p : Nat} {h : Bool} {w : World} (k : Boxes B s p h w) : Boxes B s p true (w.setCell ⟨B + 1 + 1, 0, none⟩ (.bool true)) := by
  refine ⟨?_, ?_, ?_, by rw [World.frozen?_setCell]; exact k.f1, by rw [World.frozen?_setCell]; exact k.f2⟩
  · rw [World.cell?_setCell_other w _ _ _ (by simp)]; exact k.str
  · rw [World.cell?_setCell_other w _ _ _ (by simp)]; exact k.at_
  · rw [World.cell?_setCell_same w _ _ k.short]

/-- The three results. -/
def trip (r : Nat × Nat × Nat) : Value := .tuple #[.int .u64 (r.1 : Int), .int .i64 (r.2.1 : Int), .int .i64 (r.2.2 : Int)]

theorem take_next {B : Nat} {s : ByteArray} {p : Nat} {h : Bool} {w : World} (k : Boxes B s p h w) (hs : s.size ≤ maxLen) (hp : p < s.size) (x : Int) (hb : x = (s[p].toNat : Int)) :
    Calls Try.prog 40 #[.pointer (some ⟨B + 1, 0, none⟩), .pointer (some ⟨B, 0, none⟩), .pointer (some ⟨B + 1 + 1, 0, none⟩)] w fun e w' => e = .returned (.int .u8 x) ∧ Boxes B s (p + 1) h w' ∧ Below B w w' := by
  subst hb
  refine (take_more s (B + 1) B (B + 1 + 1) p w hs hp k.at_ k.str (by omega) k.f1).mono ?_
  rintro e w' ⟨rfl, rfl⟩
  exact ⟨rfl, k.next, (Below.refl _ _).setCell (by simp) _⟩
theorem take_short {B : Nat} {s : ByteArray} {h : Bool} {w : World} (k : Boxes B s s.size h w) :
    Calls Try.prog 40 #[.pointer (some ⟨B + 1, 0, none⟩), .pointer (some ⟨B, 0, none⟩), .pointer (some ⟨B + 1 + 1, 0, none⟩)] w fun e w' => e = .returned (.int .u8 0) ∧ Boxes B s s.size true w' ∧ Below B w w' := by
  refine (take_end s (B + 1) B (B + 1 + 1) h w k.at_ k.str k.short k.f2).mono ?_
  rintro e w' ⟨rfl, rfl⟩
  exact ⟨rfl, k.ended, (Below.refl _ _).setCell (by simp; omega) _⟩
theorem boxes_new (s : ByteArray) (p : Nat) (w : World) (t1 t2 t3 : TypeId) : Boxes w.heap.size s p false (((w.alloc (.cells #[.string s] t1)).alloc (.cells #[.int .i64 (p : Int)] t2)).alloc (.cells #[.bool false] t3)) := by
  refine ⟨?_, ?_, ?_, ?_, ?_⟩
  · rw [World.cell?_alloc_past _ _ _ (by simp; omega), World.cell?_alloc_past _ _ _ (by simp), World.cell?_alloc_at _ _ _ _ rfl]; rfl
  · rw [World.cell?_alloc_past _ _ _ (by simp), World.cell?_alloc_at _ _ _ _ (by simp)]; rfl
  · rw [World.cell?_alloc_at _ _ _ _ (by simp)]; rfl
  · rw [World.frozen?_alloc_old _ _ _ (by simp)]
    have h := World.frozen?_alloc_mark (w.alloc (.cells #[.string s] t1)) #[.int .i64 (p : Int)] t2 0 0 0
    rw [World.size_alloc] at h
    exact h
  · have := World.frozen?_alloc_new ((w.alloc (.cells #[.string s] t1)).alloc (.cells #[.int .i64 (p : Int)] t2)) #[.bool false] t3 0
    simpa using this

set_option maxHeartbeats 400000 in
theorem takeNumber_out (s : ByteArray) (p : Int) (w : World) (h : p < 0 ∨ (s.size : Int) < p) :
    Calls Try.prog 32 #[.string s, .int .i64 p] w fun e w' => e = .returned (.tuple #[.int .u64 0, .int .i64 0, .int .i64 2]) ∧ Below w.heap.size w w' := by
  by_cases h1 : p < 0
  · clear h
    go_enter Try.func32, Try.ntmps32
    go_wp2_with fail
    go_ret3
    exact ⟨rfl, ((Below.refl _ _).alloc (Nat.le_refl _) _).alloc (by simp) _⟩
  · have h2 : (s.size : Int) < p := by rcases h with h | h <;> omega
    clear h
    go_enter Try.func32, Try.ntmps32
    go_wp2_with fail
    go_ret3
    exact ⟨rfl, ((Below.refl _ _).alloc (Nat.le_refl _) _).alloc (by simp) _⟩

set_option maxHeartbeats 1000000 in
theorem takeNumber_end (s : ByteArray) (w : World) :
    Calls Try.prog 32 #[.string s, .int .i64 (s.size : Int)] w fun e w' => e = .returned (.tuple #[.int .u64 0, .int .i64 0, .int .i64 10]) ∧ Below w.heap.size w w' := by
  go_enter Try.func32, Try.ntmps32
  go_wp2_with fail
  refine (take_short (boxes_new s s.size w _ _ _)).mono ?_
  rintro e w1 ⟨rfl, hk, hb1⟩
  have hsh := hk.short
  go_wp2_with fail
  refine wp_loop_rounds 1 ?_
  rw [rounds_succ]
  go_wp2_with fail
  go_ret3
  exact ⟨rfl, ((((Below.refl _ _).alloc (Nat.le_refl _) _).alloc (by simp) _).alloc (by simp; omega) _).trans hb1⟩

set_option maxHeartbeats 1000000 in
theorem takeNumber_small (s : ByteArray) (p : Nat) (w : World) (hs : s.size ≤ maxLen) (hp : p < s.size) (x : Nat) (hb : x = s[p].toNat) (h248 : (x : Int) < 248) :
    Calls Try.prog 32 #[.string s, .int .i64 (p : Int)] w fun e w' => e = .returned (.tuple #[.int .u64 (x : Int), .int .i64 ((p : Int) + 1), .int .i64 0]) ∧ Below w.heap.size w w' := by
  have hp2 : (p : Int) ≤ (s.size : Int) := by omega
  have hd1 : decide ((248 : Int) ≤ (x : Int)) = false := by simp; omega
  have hd2 : decide (248 ≤ x) = false := by simp; omega
  have hwr := Oct.wrap_small (q := x) (by omega)
  clear h248
  have HT := Lib.hid (take_next (boxes_new s p w 9 3 4) hs hp (x : Int) (by omega))
  clear hb hs hp
  go_enter Try.func32, Try.ntmps32
  go_wp2_with fail
  refine HT.out.mono ?_
  rintro e w1 ⟨rfl, hk, hb1⟩
  have hsh := hk.short
  have hat := hk.at_
  go_wp2_with fail
  refine wp_loop_rounds 1 ?_
  rw [rounds_succ]
  go_wp2_with fail
  go_quiet (fail)
  go_wp2_with fail
  go_ret3
  exact ⟨rfl, Below.drewN (((((Below.refl _ _).alloc (Nat.le_refl _) _).alloc (by simp) _).alloc (by simp; omega) _).trans hb1) _⟩

set_option maxRecDepth 100000 in
set_option maxHeartbeats 2000000 in
theorem takeNumber_big (s : ByteArray) (p k : Nat) (w : World) (hs : s.size ≤ maxLen) (hp : p < s.size) (X : Int) (hx : X = (s[p].toNat : Int)) (hXk : X = (k : Int) + 247) (hk1 : (1 : Int) ≤ (k : Int)) (hk8 : (k : Int) ≤ 8)
    (n : Nat) (hn : n = Oct.un (Oct.pad s.data.toList (p + 1) k)) (r : Nat × Nat × Nat)
    (hr : r = if s.size - (p + 1) < k then (0, 0, 10) else if n < 248 ∨ Oct.wd n ≠ k then (0, 0, 11) else (n, p + 1 + k, 0)) :
    Calls Try.prog 32 #[.string s, .int .i64 (p : Int)] w fun e w' => e = .returned (trip r) ∧ Below w.heap.size w w' := by
  have hp2 : (p : Int) ≤ (s.size : Int) := by omega
  have hp3 : (p : Int) < (s.size : Int) := by omega
  have hs2 : (s.size : Int) ≤ 9223372036854775807 := by unfold maxLen at hs; omega
  have hd1 : decide ((248 : Int) ≤ X) = true := by simp; omega
  have e11 : X - 248 + 1 = (k : Int) := by omega
  have hX0 : 0 ≤ X := by omega
  have hX1 : X ≤ 255 := by omega
  have HT := Lib.hid (take_next (boxes_new s p w 9 3 4) hs hp X hx)
  have HS := Lib.hid hs
  have HN := Lib.hid hn
  have HR := Lib.hid hr
  have hlen : s.data.toList.length = s.size := by simp
  have HL := Lib.hid hlen
  clear hx hs hp hn hlen hXk hr
  go_enter Try.func32, Try.ntmps32
  go_wp2_with fail
  refine HT.out.mono ?_
  rintro e w1 ⟨rfl, hk, hb1⟩
  clear HT
  have hbel : Below w.heap.size w w1 := ((((Below.refl _ _).alloc (Nat.le_refl _) _).alloc (by simp) _).alloc (by simp; omega) _).trans hb1
  clear hb1
  go_wp2_with fail
  go_loopw [10, 32] (fun a i wr => ∃ j : Nat, (j : Int) ≤ (k : Int) ∧ i = .int .i64 (j : Int) ∧ a = .int .u64 ((Oct.un (Oct.pad s.data.toList (p + 1) j) : Nat) : Int) ∧
      Boxes w.heap.size s (min (p + 1 + j) s.size) (decide (s.size - (p + 1) < j)) wr ∧ Below w.heap.size w wr) (fun _ i _ => k - (intOf i).toNat)
  case atStart =>
    refine ⟨0, by omega, rfl, by simp [Oct.pad, Oct.un], ?_, hbel⟩
    have e1 : min (p + 1 + 0) s.size = p + 1 := by omega
    rw [e1]
    simpa using hk
  case round =>
    clear hk hbel
    obtain ⟨j, hj, rfl, rfl, hk, hbel⟩ := hrel
    have hun := Oct.un_lt (Oct.pad s.data.toList (p + 1) j)
    rw [Oct.pad_length _ _ _ (by omega)] at hun
    by_cases hlt : (j : Int) < (k : Int)
    · have hj7 : 256 ^ j ≤ 256 ^ 7 := Nat.pow_le_pow_right (by omega) (by omega)
      have hnb : ((Oct.un (Oct.pad s.data.toList (p + 1) j) : Nat) : Int) ≤ 72057594037927935 := by simp only [Nat.reducePow] at hj7; omega
      have HNB := Lib.hid hnb
      clear hj7 hun
      by_cases hin : p + 1 + j < s.size
      · have e1 : min (p + 1 + j) s.size = p + 1 + j := by omega
        have e2 : decide (s.size - (p + 1) < j) = false := by simp; omega
        rw [e1, e2] at hk
        obtain ⟨b, hb⟩ : ∃ b, b = s[p + 1 + j] := ⟨_, rfl⟩
        have HT := Lib.hid (take_next hk HS.out hin (b.toNat : Int) (by rw [hb]))
        have HP : Hid (Oct.pad s.data.toList (p + 1) (j + 1) = Oct.pad s.data.toList (p + 1) j ++ [b]) := by rw [hb]; exact Oct.pad_in s.data.toList (p + 1) j (by rw [HL.out]; omega)
        have HO := Lib.hid (Oct.or_byte (n := Oct.un (Oct.pad s.data.toList (p + 1) j)) (by have := HNB.out; omega) b.toNat b.toNat_lt)
        have HU := Lib.hid (Oct.un_snoc (Oct.pad s.data.toList (p + 1) j) b)
        have HIN : Hid (min (p + 1 + (j + 1)) s.size = p + 1 + j + 1 ∧ decide (s.size - (p + 1) < j + 1) = false) := ⟨by omega, by simp; omega⟩
        clear e1 e2 hk hb hin
        generalize Oct.un (Oct.pad s.data.toList (p + 1) j) = m at *
        have hy : ((b.toNat : Nat) : Int) ≤ 255 := by have := b.toNat_lt; omega
        generalize b.toNat = y at *
        have hm := HNB.out
        have hm0 : (0 : Int) ≤ (m : Int) := by omega
        go_wp2_with fail
        refine HT.out.mono ?_
        rintro e w2 ⟨rfl, hk2, hb2⟩
        go_wp2_with fail
        go_roundw
        case rel =>
          refine ⟨j + 1, by omega, by go_num, ?_, by rw [HIN.out.1, HIN.out.2]; exact hk2, hbel.trans hb2⟩
          rw [HP.out, HU.out, ← HO.out]
        case measure => simp [intOf]; omega
      · have e1 : min (p + 1 + j) s.size = s.size := by omega
        rw [e1] at hk
        have HT := Lib.hid (take_short hk)
        have HP : Hid (Oct.pad s.data.toList (p + 1) (j + 1) = Oct.pad s.data.toList (p + 1) j ++ [0]) := Oct.pad_out s.data.toList (p + 1) j (by rw [HL.out]; omega) (by omega)
        have HO := Lib.hid (Oct.or_byte (n := Oct.un (Oct.pad s.data.toList (p + 1) j)) (by have := HNB.out; omega) 0 (by omega))
        have HU := Lib.hid (Oct.un_snoc (Oct.pad s.data.toList (p + 1) j) 0)
        have HIN : Hid (min (p + 1 + (j + 1)) s.size = s.size ∧ decide (s.size - (p + 1) < j + 1) = true) := ⟨by omega, by simp; omega⟩
        clear e1 hk hin
        generalize Oct.un (Oct.pad s.data.toList (p + 1) j) = m at *
        have hm := HNB.out
        have hm0 : (0 : Int) ≤ (m : Int) := by omega
        go_wp2_with fail
        refine HT.out.mono ?_
        rintro e w2 ⟨rfl, hk2, hb2⟩
        go_wp2_with fail
        go_roundw
        case rel =>
          refine ⟨j + 1, by omega, by go_num, ?_, by rw [HIN.out.1, HIN.out.2]; exact hk2, hbel.trans hb2⟩
          rw [HP.out, HU.out]
          exact congrArg (Value.int IntKind.u64) HO.out
        case measure => simp [intOf]; omega
    · obtain rfl : j = k := by omega
      rw [← HN.out] at hun ⊢
      have hr := HR.out
      clear HR
      have hn64 : n < 18446744073709551616 := by
        have : 256 ^ j ≤ 256 ^ 8 := Nat.pow_le_pow_right (by omega) (by omega)
        simp only [Nat.reducePow] at this
        omega
      have hwid := width_any n hn64
      have hw8 := Oct.wd_le n
      have HW := Lib.hid hwid
      clear hun hn64 hwid
      by_cases hsh : s.size - (p + 1) < j
      · have e1 : decide (s.size - (p + 1) < j) = true := by simp; omega
        rw [e1] at hk
        rw [if_pos hsh] at hr
        have HR := Lib.hid hr
        have hcs := hk.short
        clear e1 hsh hk hr
        go_wp2_with fail
        go_ret3
        exact ⟨by rw [HR.out]; rfl, hbel⟩
      · have e1 : decide (s.size - (p + 1) < j) = false := by simp; omega
        have e2 : min (p + 1 + j) s.size = p + 1 + j := by omega
        rw [e1, e2] at hk
        rw [if_neg hsh] at hr
        have hcs := hk.short
        have hca := hk.at_
        have hpos : (0 : Int) < (j : Int) := by omega
        clear e1 e2 hsh hk hk1 hj hlt e11 hd1 hX0 hX1
        by_cases h248 : n < 248
        · rw [if_pos (.inl h248)] at hr
          have HR := Lib.hid hr
          have g1 : (n : Int) < 248 := by omega
          clear h248 hr
          go_wp2_with fail
          go_ret3
          exact ⟨by rw [HR.out]; rfl, hbel⟩
        · have g1 : decide ((n : Int) < 248) = false := by simp; omega
          have g2 : decide (n < 248) = false := by simp; omega
          by_cases hwk : Oct.wd n = j
          · rw [if_neg (by intro h; rcases h with h | h <;> omega)] at hr
            have HR := Lib.hid hr
            have g3 : ((Oct.wd n : Int) != (j : Int)) = false := by rw [hwk]; simp
            have HG := Lib.hid g3
            clear h248 hwk hr
            go_wp2_with fail
            refine (HW.out _).mono ?_
            rintro e w2 ⟨rfl, rfl⟩
            have g4 := HG.out
            go_wp2_with fail
            go_quiet (fail)
            go_wp2_with fail
            go_ret3
            exact ⟨by rw [HR.out]; rfl, Below.drewN hbel _⟩
          · rw [if_pos (.inr hwk)] at hr
            have HR := Lib.hid hr
            have g3 : ((Oct.wd n : Int) != (j : Int)) = true := by simp; omega
            have HG := Lib.hid g3
            clear h248 hwk hr
            go_wp2_with fail
            refine (HW.out _).mono ?_
            rintro e w2 ⟨rfl, rfl⟩
            have g4 := HG.out
            go_wp2_with fail
            go_ret3
            exact ⟨by rw [HR.out]; rfl, hbel⟩

/-- octets.TakeNumber takes what the document says. -/
theorem takeNumber_any (s : ByteArray) (p : Int) (w : World) (hs : s.size ≤ maxLen) :
    Calls Try.prog 32 #[.string s, .int .i64 p] w fun e w' => e = .returned (trip (Oct.tnB s p)) ∧ Below w.heap.size w w' := by
  have hl : s.data.toList.length = s.size := by simp
  unfold Oct.tnB Oct.tnI
  rw [hl]
  by_cases h : p < 0 ∨ (s.size : Int) < p
  · rw [if_pos h]; exact takeNumber_out s p w h
  · rw [if_neg h]
    obtain ⟨q, rfl⟩ := Int.eq_ofNat_of_zero_le (show 0 ≤ p by omega)
    rw [Int.toNat_natCast]
    by_cases h1 : q = s.size
    · subst h1
      rw [Oct.tn_end _ _ (by omega)]
      exact takeNumber_end s w
    · have hq : q < s.size := by omega
      have hb : s.data.toList[q]'(by rw [hl]; exact hq) = s[q] := rfl
      have hlt := s[q].toNat_lt
      by_cases h2 : s[q].toNat < 248
      · rw [Oct.tn_small _ _ (by rw [hl]; exact hq) (by rw [hb]; exact h2), hb]
        exact takeNumber_small s q w hs hq _ rfl (by omega)
      · rw [Oct.tn_big _ _ (s[q].toNat - 247) (by rw [hl]; exact hq) (by rw [hb]; exact h2) (by rw [hb]), hl]
        by_cases h3 : s.size - (q + 1) < s[q].toNat - 247
        · have := takeNumber_big s q (s[q].toNat - 247) w hs hq (s[q].toNat : Int) rfl (by omega) (by omega) (by omega) _ rfl _ rfl
          rw [if_pos h3] at this ⊢
          exact this
        · have := takeNumber_big s q (s[q].toNat - 247) w hs hq (s[q].toNat : Int) rfl (by omega) (by omega) (by omega) _ rfl _ rfl
          rw [if_neg h3, Oct.pad_whole _ _ _ (by rw [hl]; omega)] at this
          rw [if_neg h3]
          exact this
end Go.Proofs.Ytbhadaiijcdlkaa
