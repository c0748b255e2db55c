/- The walks over the document's Comes and Proves. -/
import Derived.Test.YtbajgpbekanodaaComesM
import Derived.Test.YtbajgpbekanodaaDigRefRoot
import Derived.Test.YtbajgpbekanodaaDigProves
namespace Go.Proofs.Ytbajgpbekanodaa
open Go.RowKit

set_option maxRecDepth 100000 in
set_option maxHeartbeats 2000000 in
theorem comes_out (n i : Int) (leaf : ByteArray) (ap : Option Addr) (m cap : Nat) (w : World) (h : i < 0 ∨ n ≤ i) :
    Calls Try.prog 63 #[.int .i64 n, .int .i64 i, .string leaf, .slice ap m cap] w fun e w' => e = .returned (.tuple #[.string ByteArray.empty, .bool false]) ∧ Below w.heap.size w w' := by
  by_cases h0 : i < 0
  · clear h
    go_enter Try.func63, Try.ntmps63
    go_wp2_with fail
    go_ret2
    exact ⟨rfl, Below.refl _ _⟩
  · have h1 : n ≤ i := by omega
    clear h
    go_enter Try.func63, Try.ntmps63
    go_wp2_with fail
    go_ret2
    exact ⟨rfl, Below.refl _ _⟩
set_option maxRecDepth 100000 in
set_option maxHeartbeats 2000000 in
theorem comes_one {H : ByteArray → ByteArray} (hS : RefLaw H) (leaf : ByteArray) (hs : leaf.size ≤ 1073741824) (ap : Option Addr) (m cap : Nat) (b : Bool) (hb : ((m : Int) == 0) = b) (w : World) :
    Calls Try.prog 63 #[.int .i64 1, .int .i64 0, .string leaf, .slice ap m cap] w fun e w' => e = .returned (.tuple #[.string (H (Tre.leafB leaf)), .bool b]) ∧ Below w.heap.size w w' := by
  have C : Hid (∀ w, Calls Try.prog 21 #[.string (⟨#[0]⟩ ++ leaf)] w fun e w' => e = .returned (.string (H (Tre.leafB leaf))) ∧ Below w.heap.size w w') := fun w => hS.2 (Tre.leafB leaf) (by rw [Tre.leafB_size]; omega) w
  have hs1 : (leaf.size : Int) ≤ 1073741824 := by omega
  have hs3 : 1 + leaf.size ≤ 9223372036854775807 := by omega
  have hs2 : ((⟨#[0]⟩ : ByteArray).size : Int) = 1 := rfl
  generalize H (Tre.leafB leaf) = d at *
  clear hs
  go_enter Try.func63, Try.ntmps63
  go_wp2_with fail
  refine (C.out _).mono ?_
  rintro e w1 ⟨rfl, hb1⟩
  go_wp2_with fail
  go_ret2
  exact ⟨rfl, hb1⟩
set_option maxRecDepth 100000 in
set_option maxHeartbeats 2000000 in
theorem comes_none (n i : Nat) (leaf : ByteArray) (ap : Option Addr) (cap : Nat) (w : World) (h2 : 2 ≤ (n : Int)) (hin : (i : Int) < (n : Int)) :
    Calls Try.prog 63 #[.int .i64 (n : Int), .int .i64 (i : Int), .string leaf, .slice ap 0 cap] w fun e w' => e = .returned (.tuple #[.string ByteArray.empty, .bool false]) ∧ Below w.heap.size w w' := by
  have hno : ((n : Int) == 1) = false := by simp; omega
  have hi0 : (0 : Int) ≤ (i : Int) := Int.natCast_nonneg _
  go_enter Try.func63, Try.ntmps63
  go_wp2_with fail
  go_ret2
  exact ⟨rfl, Below.refl _ _⟩
set_option maxRecDepth 100000 in
set_option maxHeartbeats 2000000 in
theorem comes_short (n i : Nat) (leaf p : ByteArray) (b off m j cap : Nat) (w : World) (h2 : 2 ≤ (n : Int)) (hin : (i : Int) < (n : Int)) (hm : m = j + 1) (hm63 : (m : Int) ≤ 9223372036854775807) (hcell : w.cell? ⟨b, off + j, none⟩ = some (.string p)) (hp : p.size ≠ 32) :
    Calls Try.prog 63 #[.int .i64 (n : Int), .int .i64 (i : Int), .string leaf, .slice (some ⟨b, off, none⟩) m cap] w fun e w' => e = .returned (.tuple #[.string ByteArray.empty, .bool false]) ∧ Below w.heap.size w w' := by
  have hno : ((n : Int) == 1) = false := by simp; omega
  have hi0 : (0 : Int) ≤ (i : Int) := Int.natCast_nonneg _
  have hj0 : (0 : Int) ≤ (j : Int) := Int.natCast_nonneg _
  have hjm : (j : Int) < (m : Int) := by omega
  have hm0 : ((m : Int) == 0) = false := by simp; omega
  have q1 : IntKind.i64.wrap ((m : Int) - 1) = (j : Int) := by rw [show (m : Int) - 1 = (j : Int) by omega]; exact IntWalk.i64_in _ ⟨by omega, by omega⟩
  have hz : ((p.size : Int) == 32) = false := by rw [beq_eq_false_iff_ne]; omega
  clear hm
  go_enter Try.func63, Try.ntmps63
  go_wp2_with fail
  go_ret2
  exact ⟨rfl, Below.refl _ _⟩
set_option maxRecDepth 100000 in
set_option maxHeartbeats 2000000 in
theorem comes_left {H : ByteArray → ByteArray} (hS : RefLaw H) (n i k : Nat) (leaf p s : ByteArray) (ok : Bool) (b off m j cap : Nat) (w : World) (h2 : 2 ≤ (n : Int)) (hn63 : (n : Int) ≤ 9223372036854775807) (hin : (i : Int) < (n : Int)) (hm : m = j + 1) (hmc : (m : Int) ≤ (cap : Int)) (hm63 : (cap : Int) ≤ 9223372036854775807) (hcell : w.cell? ⟨b, off + j, none⟩ = some (.string p)) (hp : p.size = 32) (hs : s.size ≤ 32)
    (hk : k = Tre.half n) (_ : (k : Int) < (n : Int)) (hik : (i : Int) < (k : Int))
    (CP : Hid (∀ w', Below w.heap.size w w' → Calls Try.prog 63 #[.int .i64 (k : Int), .int .i64 (i : Int), .string leaf, .slice (some ⟨b, off, none⟩) j cap] w' fun e w'' => e = .returned (.tuple #[.string s, .bool ok]) ∧ Below w'.heap.size w' w'')) :
    Calls Try.prog 63 #[.int .i64 (n : Int), .int .i64 (i : Int), .string leaf, .slice (some ⟨b, off, none⟩) m cap] w fun e w' => e = .returned (.tuple #[.string (H (Tre.nodeB s p)), .bool ok]) ∧ Below w.heap.size w w' := by
  have CS := Lib.hid (fun w => half38_any n h2 hn63 w)
  rw [← hk] at CS
  obtain ⟨T1, hT1⟩ : ∃ T1, T1 = (⟨#[1]⟩ : ByteArray) ++ s := ⟨_, rfl⟩
  obtain ⟨T, hT⟩ : ∃ T, T = T1 ++ p := ⟨_, rfl⟩
  have hTN : Tre.nodeB s p = T := by rw [hT, hT1]; rfl
  rw [hTN]
  have hT1s : T1.size = 1 + s.size := by rw [hT1, ByteArray.size_append]; rfl
  have hTs : T.size = 1 + s.size + p.size := by rw [hT, ByteArray.size_append, hT1s]
  have CH := Lib.hid (fun w => hS.2 T (by omega) w)
  have hn1 : 1 + s.size ≤ 9223372036854775807 := by omega
  have hn2 : T1.size + p.size ≤ 9223372036854775807 := by omega
  have hT1' : (⟨#[1]⟩ : ByteArray) ++ s = T1 := hT1.symm
  have hT' : T1 ++ p = T := hT.symm
  have hno : ((n : Int) == 1) = false := by simp; omega
  have hi0 : (0 : Int) ≤ (i : Int) := Int.natCast_nonneg _
  have hj0 : (0 : Int) ≤ (j : Int) := Int.natCast_nonneg _
  have hjm : (j : Int) < (m : Int) := by omega
  have hjc : (j : Int) ≤ (cap : Int) := by omega
  have hm0 : ((m : Int) == 0) = false := by simp; omega
  have q1 : IntKind.i64.wrap ((m : Int) - 1) = (j : Int) := by rw [show (m : Int) - 1 = (j : Int) by omega]; exact IntWalk.i64_in _ ⟨by omega, by omega⟩
  have hz : ((p.size : Int) == 32) = true := by rw [beq_iff_eq]; omega
  clear hm hp hs hk hT1 hT hTN hT1s hTs
  go_enter Try.func63, Try.ntmps63
  go_wp2_with fail
  refine (CS.out _).mono ?_
  rintro e w1 ⟨rfl, rfl⟩
  go_wp2_with fail
  refine (CP.out _ (Below.refl _ _)).mono ?_
  rintro e w2 ⟨rfl, hb2⟩
  have HB2 := Lib.hid hb2
  clear hb2
  go_wp2_with fail
  refine (CH.out _).mono ?_
  rintro e w3 ⟨rfl, hb3⟩
  go_wp2_with fail
  go_ret2
  exact ⟨rfl, HB2.out.trans (hb3.mono HB2.out.size)⟩
set_option maxRecDepth 100000 in
set_option maxHeartbeats 2000000 in
theorem comes_right {H : ByteArray → ByteArray} (hS : RefLaw H) (n i k : Nat) (leaf p s : ByteArray) (ok : Bool) (b off m j cap : Nat) (w : World) (h2 : 2 ≤ (n : Int)) (hn63 : (n : Int) ≤ 9223372036854775807) (hin : (i : Int) < (n : Int)) (hm : m = j + 1) (hmc : (m : Int) ≤ (cap : Int)) (hm63 : (cap : Int) ≤ 9223372036854775807) (hcell : w.cell? ⟨b, off + j, none⟩ = some (.string p)) (hp : p.size = 32) (hs : s.size ≤ 32)
    (hk : k = Tre.half n) (hkn : (k : Int) < (n : Int)) (hik : (k : Int) ≤ (i : Int))
    (CP : Hid (∀ w', Below w.heap.size w w' → Calls Try.prog 63 #[.int .i64 ((n : Int) - (k : Int)), .int .i64 ((i : Int) - (k : Int)), .string leaf, .slice (some ⟨b, off, none⟩) j cap] w' fun e w'' => e = .returned (.tuple #[.string s, .bool ok]) ∧ Below w'.heap.size w' w'')) :
    Calls Try.prog 63 #[.int .i64 (n : Int), .int .i64 (i : Int), .string leaf, .slice (some ⟨b, off, none⟩) m cap] w fun e w' => e = .returned (.tuple #[.string (H (Tre.nodeB p s)), .bool ok]) ∧ Below w.heap.size w w' := by
  have CS := Lib.hid (fun w => half38_any n h2 hn63 w)
  rw [← hk] at CS
  obtain ⟨T1, hT1⟩ : ∃ T1, T1 = (⟨#[1]⟩ : ByteArray) ++ p := ⟨_, rfl⟩
  obtain ⟨T, hT⟩ : ∃ T, T = T1 ++ s := ⟨_, rfl⟩
  have hTN : Tre.nodeB p s = T := by rw [hT, hT1]; rfl
  rw [hTN]
  have hT1s : T1.size = 1 + p.size := by rw [hT1, ByteArray.size_append]; rfl
  have hTs : T.size = 1 + p.size + s.size := by rw [hT, ByteArray.size_append, hT1s]
  have CH := Lib.hid (fun w => hS.2 T (by omega) w)
  have hn1 : 1 + p.size ≤ 9223372036854775807 := by omega
  have hn2 : T1.size + s.size ≤ 9223372036854775807 := by omega
  have hT1' : (⟨#[1]⟩ : ByteArray) ++ p = T1 := hT1.symm
  have hT' : T1 ++ s = T := hT.symm
  have hno : ((n : Int) == 1) = false := by simp; omega
  have hi0 : (0 : Int) ≤ (i : Int) := Int.natCast_nonneg _
  have hj0 : (0 : Int) ≤ (j : Int) := Int.natCast_nonneg _
  have hjm : (j : Int) < (m : Int) := by omega
  have hjc : (j : Int) ≤ (cap : Int) := by omega
  have hm0 : ((m : Int) == 0) = false := by simp; omega
  have q1 : IntKind.i64.wrap ((m : Int) - 1) = (j : Int) := by rw [show (m : Int) - 1 = (j : Int) by omega]; exact IntWalk.i64_in _ ⟨by omega, by omega⟩
  have hz : ((p.size : Int) == 32) = true := by rw [beq_iff_eq]; omega
  have hd : decide ((i : Int) < (k : Int)) = false := decide_eq_false (by omega)
  have q2 : IntKind.i64.wrap ((n : Int) - (k : Int)) = (n : Int) - (k : Int) := IntWalk.i64_in _ ⟨by omega, by omega⟩
  have q3 : IntKind.i64.wrap ((i : Int) - (k : Int)) = (i : Int) - (k : Int) := IntWalk.i64_in _ ⟨by omega, by omega⟩
  clear hm hp hs hk hT1 hT hTN hT1s hTs
  go_enter Try.func63, Try.ntmps63
  go_wp2_with fail
  refine (CS.out _).mono ?_
  rintro e w1 ⟨rfl, rfl⟩
  go_wp2_with fail
  refine (CP.out _ (Below.refl _ _)).mono ?_
  rintro e w2 ⟨rfl, hb2⟩
  have HB2 := Lib.hid hb2
  clear hb2
  go_wp2_with fail
  refine (CH.out _).mono ?_
  rintro e w3 ⟨rfl, hb3⟩
  go_wp2_with fail
  go_ret2
  exact ⟨rfl, HB2.out.trans (hb3.mono HB2.out.size)⟩

theorem comes_in {H : ByteArray → ByteArray} (hS : RefLaw H) (leaf : ByteArray) (hleaf : leaf.size ≤ 1073741824) (f : Nat) : ∀ (ps : List ByteArray) (n i : Nat) (ap : Option Addr) (m cap : Nat) (w : World), ps.length ≤ f → m = ps.length → i < n → (n : Int) ≤ 9223372036854775807 → StrsFit ps cap → StrsAt w ap ps →
    Calls Try.prog 63 #[.int .i64 (n : Int), .int .i64 (i : Int), .string leaf, .slice ap m cap] w fun e w' => e = .returned (.tuple #[.string (Tre.comesL H leaf ps.reverse n i).1, .bool (Tre.comesL H leaf ps.reverse n i).2]) ∧ Below w.heap.size w w' := by
  induction f with
  | zero =>
    intro ps n i ap m cap w h1 hm hin hn hf hc
    have : ps = [] := List.eq_nil_of_length_eq_zero (by omega)
    subst this hm
    by_cases h : n = 1
    · subst h
      obtain rfl : i = 0 := by omega
      exact comes_one hS leaf hleaf ap 0 cap true rfl w
    · have e : Tre.comesL H leaf ([] : List ByteArray).reverse n i = (ByteArray.empty, false) := by
        rw [List.reverse_nil]; unfold Tre.comesL; rw [if_neg h]
      rw [e]
      exact comes_none n i leaf ap cap w (by omega) (by omega)
  | succ f ih =>
    intro ps n i ap m cap w h1 hm hin hn hf hc
    by_cases h0 : ps = []
    · subst h0 hm
      by_cases h : n = 1
      · subst h
        obtain rfl : i = 0 := by omega
        exact comes_one hS leaf hleaf ap 0 cap true rfl w
      · have e : Tre.comesL H leaf ([] : List ByteArray).reverse n i = (ByteArray.empty, false) := by
          rw [List.reverse_nil]; unfold Tre.comesL; rw [if_neg h]
        rw [e]
        exact comes_none n i leaf ap cap w (by omega) (by omega)
    · obtain ⟨qs, p, rfl⟩ : ∃ qs p, ps = qs ++ [p] := ⟨ps.dropLast, ps.getLast h0, (List.dropLast_concat_getLast h0).symm⟩
      have hlen : (qs ++ [p]).length = qs.length + 1 := by simp
      obtain ⟨b, off, rfl, _, hcell⟩ := hc qs.length (by omega)
      have ep : (qs ++ [p]).getD qs.length ByteArray.empty = p := by simp [List.getD]
      rw [ep] at hcell
      have hmc := hf.1
      have hcm := hf.2.1
      unfold maxLen at hcm
      have hcq : StrsAt w (some ⟨b, off, none⟩) qs := by have := strsAt_take hc qs.length; rw [List.take_left] at this; exact this
      have hfq : StrsFit qs cap := by have := strsFit_take hf qs.length; rw [List.take_left] at this; exact this
      rw [List.reverse_append, List.reverse_singleton, List.singleton_append]
      subst hm
      by_cases h : n = 1
      · subst h
        obtain rfl : i = 0 := by omega
        have e : Tre.comesL H leaf (p :: qs.reverse) 1 0 = (H (Tre.leafB leaf), false) := by unfold Tre.comesL; rw [if_pos rfl]
        rw [e]
        exact comes_one hS leaf hleaf _ _ cap false (by rw [beq_eq_false_iff_ne]; omega) w
      · by_cases hp : p.size = 32
        · obtain ⟨b1, b2, b3⟩ := Tre.half_bounds (n := n) (by omega) (by omega)
          by_cases hlt : i < Tre.half n
          · have e : Tre.comesL H leaf (p :: qs.reverse) n i = (H (Tre.nodeB (Tre.comesL H leaf qs.reverse (Tre.half n) i).1 p), (Tre.comesL H leaf qs.reverse (Tre.half n) i).2) := by
              conv => lhs; unfold Tre.comesL
              rw [if_neg h, if_pos hp, if_pos hlt]
            rw [e]
            refine comes_left hS n i (Tre.half n) leaf p _ _ b off _ qs.length cap w (by omega) hn (by omega) hlen (by omega) (by omega) hcell hp (Tre.comesL_size H hS.1 leaf _ _ _) rfl (by omega) (by omega) ?_
            intro w' hb'
            exact ih qs (Tre.half n) i _ _ cap w' (by omega) rfl hlt (by omega) hfq (hcq.kept hb' (Nat.le_refl _))
          · have e : Tre.comesL H leaf (p :: qs.reverse) n i = (H (Tre.nodeB p (Tre.comesL H leaf qs.reverse (n - Tre.half n) (i - Tre.half n)).1), (Tre.comesL H leaf qs.reverse (n - Tre.half n) (i - Tre.half n)).2) := by
              conv => lhs; unfold Tre.comesL
              rw [if_neg h, if_pos hp, if_neg hlt]
            rw [e]
            refine comes_right hS n i (Tre.half n) leaf p _ _ b off _ qs.length cap w (by omega) hn (by omega) hlen (by omega) (by omega) hcell hp (Tre.comesL_size H hS.1 leaf _ _ _) rfl (by omega) (by omega) ?_
            intro w' hb'
            rw [show (n : Int) - ((Tre.half n : Nat) : Int) = ((n - Tre.half n : Nat) : Int) by omega, show (i : Int) - ((Tre.half n : Nat) : Int) = ((i - Tre.half n : Nat) : Int) by omega]
            exact ih qs (n - Tre.half n) (i - Tre.half n) _ _ cap w' (by omega) rfl (by omega) (by omega) hfq (hcq.kept hb' (Nat.le_refl _))
        · have e : Tre.comesL H leaf (p :: qs.reverse) n i = (ByteArray.empty, false) := by unfold Tre.comesL; rw [if_neg h, if_neg hp]
          rw [e]
          exact comes_short n i leaf p b off _ qs.length cap w (by omega) (by omega) hlen (by omega) hcell hp
theorem comes_any {H : ByteArray → ByteArray} (hS : RefLaw H) (leaf : ByteArray) (hleaf : leaf.size ≤ 1073741824) (n i : Int) (hn : n ≤ 9223372036854775807) (ps : List ByteArray) (ap : Option Addr) (cap : Nat) (w : World) (hf : StrsFit ps cap) (hc : StrsAt w ap ps) :
    Calls Try.prog 63 #[.int .i64 n, .int .i64 i, .string leaf, .slice ap ps.length cap] w fun e w' => e = .returned (.tuple #[.string (Tre.comesR H n i leaf ps).1, .bool (Tre.comesR H n i leaf ps).2]) ∧ Below w.heap.size w w' := by
  unfold Tre.comesR
  by_cases h : i < 0 ∨ n ≤ i
  · rw [if_pos h]
    exact comes_out n i leaf ap ps.length cap w h
  · rw [if_neg h]
    obtain ⟨j, rfl⟩ := Int.eq_ofNat_of_zero_le (show 0 ≤ i by omega)
    obtain ⟨k, rfl⟩ := Int.eq_ofNat_of_zero_le (show 0 ≤ n by omega)
    rw [Int.toNat_natCast, Int.toNat_natCast]
    exact comes_in hS leaf hleaf ps.length ps k j ap _ cap w (Nat.le_refl _) rfl (by omega) hn hf hc
set_option maxRecDepth 100000 in
set_option maxHeartbeats 2000000 in
theorem refProves_any {H : ByteArray → ByteArray} (hS : RefLaw H) (root : ByteArray) (n i : Int) (hn : n ≤ 9223372036854775807) (leaf : ByteArray) (hleaf : leaf.size ≤ 1073741824) (ps : List ByteArray) (ap : Option Addr) (cap : Nat) (w : World)
    (hf : StrsFit ps cap) (hc : StrsAt w ap ps) :
    Calls Try.prog 31 #[.string root, .int .i64 n, .int .i64 i, .string leaf, .slice ap ps.length cap] w fun e w' => e = .returned (.bool (Tre.provesR H root n i leaf ps)) ∧ Below w.heap.size w w' := by
  have C := Lib.hid (comes_any hS leaf hleaf n i hn ps ap cap w hf hc)
  rw [← Tre.comesR_proves H root n i hn leaf ps]
  generalize Tre.comesR H n i leaf ps = r at *
  obtain ⟨s, ok⟩ := r
  simp only at C ⊢
  have hb := bytes_beq s root
  generalize decide (s = root) = d at *
  clear hf hc hleaf
  cases ok
  · go_enter Try.func31, Try.ntmps31
    go_wp2_with fail
    refine C.out.mono ?_
    rintro e w1 ⟨rfl, hb1⟩
    go_wp2_with fail
    go_ret
    exact ⟨rfl, hb1⟩
  · go_enter Try.func31, Try.ntmps31
    go_wp2_with fail
    refine C.out.mono ?_
    rintro e w1 ⟨rfl, hb1⟩
    go_wp2_with fail
    go_ret
    exact ⟨rfl, hb1⟩
end Go.Proofs.Ytbajgpbekanodaa
