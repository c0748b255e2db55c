/- The walks over the document's half and Root, over whatever digest H that its Sum tells. -/
import Derived.Test.YtbajgpbekanodaaDigTree
import Derived.Test.YtbajgpbekanodaaDigProof
import Derived.Test.YtbajgpbekanodaaRegion
namespace Go.Proofs.Ytbajgpbekanodaa
open Go.RowKit

def RefLaw (H : ByteArray → ByteArray) : Prop := (∀ s, (H s).size = 32) ∧ ∀ (s : ByteArray) (_ : s.size ≤ 150000000000000) (w : World),
  Calls Try.prog 21 #[.string s] w fun e w' => e = .returned (.string (H s)) ∧ Below w.heap.size w w'

/-- The greatest power of two below n. -/
theorem half_is (n : Nat) : ∃ m, Tre.half n = 2 ^ m := ⟨_, rfl⟩
theorem pow_half {n j : Nat} (h : 2 ≤ n) (hn : n < 2 ^ 64) (hj : 2 ^ j < n) : 2 ^ j ≤ Tre.half n := by
  obtain ⟨a, b, c⟩ := Tre.half_bounds h hn
  obtain ⟨m, hm⟩ := half_is n
  rw [hm] at a b c ⊢
  rcases Nat.lt_or_ge m j with hlt | hge
  · have h1 : 2 ^ (m + 1) ≤ 2 ^ j := Nat.pow_le_pow_right (by omega) (by omega)
    rw [Nat.pow_succ] at h1
    omega
  · exact Nat.pow_le_pow_right (by omega) hge
theorem half_pow {n j : Nat} (h : 2 ≤ n) (hn : n < 2 ^ 64) (hj : 2 ^ j ≤ Tre.half n) (hge : n ≤ 2 * 2 ^ j) : 2 ^ j = Tre.half n := by
  obtain ⟨a, b, c⟩ := Tre.half_bounds h hn
  obtain ⟨m, hm⟩ := half_is n
  rw [hm] at a b c hj ⊢
  rcases Nat.lt_or_ge j m with hlt | hge2
  · have h1 : 2 ^ (j + 1) ≤ 2 ^ m := Nat.pow_le_pow_right (by omega) (by omega)
    rw [Nat.pow_succ] at h1
    omega
  · have := Nat.pow_le_pow_right (show 0 < 2 by omega) hge2
    omega

set_option maxRecDepth 100000 in
set_option maxHeartbeats 1000000 in
theorem half38_any (n : Nat) (h2 : 2 ≤ (n : Int)) (hn : (n : Int) ≤ 9223372036854775807) (w : World) :
    Calls Try.prog 62 #[.int .i64 (n : Int)] w fun e w' => e = .returned (.int .i64 ((Tre.half n : Nat) : Int)) ∧ w = w' := by
  have HP : Hid (∀ j, 2 ^ j < n → 2 ^ j ≤ Tre.half n) := fun j hj => pow_half (by omega) (by omega) hj
  have HE : Hid (∀ j, 2 ^ j ≤ Tre.half n → n ≤ 2 * 2 ^ j → 2 ^ j = Tre.half n) := fun j h1 h3 => half_pow (by omega) (by omega) h1 h3
  obtain ⟨hb1, hb2, _⟩ := Tre.half_bounds (n := n) (by omega) (by omega)
  obtain ⟨q, hq⟩ : ∃ q, Tre.half n = q := ⟨_, rfl⟩
  rw [hq] at hb1 hb2 HP HE ⊢
  have hq1 : (1 : Int) ≤ (q : Int) := by omega
  have hqn : (q : Int) < (n : Int) := by omega
  clear hb1 hb2 hq
  go_enter Try.func62, Try.ntmps62
  go_wp2_with fail
  go_loopw [3] (fun i wr => ∃ k : Nat, (1 : Int) ≤ (k : Int) ∧ (k : Int) ≤ (q : Int) ∧ i = .int .i64 (k : Int) ∧ Hid (∃ j, k = 2 ^ j) ∧ w = wr) (fun i _ => q - (intOf i).toNat)
  case atStart => exact ⟨1, by omega, by omega, rfl, ⟨0, rfl⟩, rfl⟩
  case round =>
    obtain ⟨k, hk1, hkq, rfl, HJ, rfl⟩ := hrel
    have w1 : IntKind.i64.wrap ((n : Int) - (k : Int)) = (n : Int) - (k : Int) := IntWalk.i64_in _ ⟨by omega, by omega⟩
    by_cases hlt : (k : Int) < (n : Int) - (k : Int)
    · have HK : Hid (2 * (k : Int) ≤ (q : Int)) := by
        show _ ≤ _
        obtain ⟨j, hj⟩ := HJ.out
        have h1 := HP.out (j + 1) (by rw [Nat.pow_succ]; omega)
        rw [Nat.pow_succ] at h1
        omega
      have HJ2 : Hid (∃ j, 2 * k = 2 ^ j) := by
        obtain ⟨j, hj⟩ := HJ.out
        exact ⟨j + 1, by rw [Nat.pow_succ]; omega⟩
      have w2 : IntKind.i64.wrap (2 * (k : Int)) = 2 * (k : Int) := IntWalk.i64_in _ ⟨by omega, by have := HK.out; omega⟩
      go_wp2_with fail
      go_roundw
      case rel => exact ⟨2 * k, by omega, by have := HK.out; push_cast; omega, by push_cast; rfl, HJ2, trivial⟩
      case measure => have := HK.out; simp [intOf]; omega
    · have HQ : Hid (k = q) := by
        show _ = _
        obtain ⟨j, hj⟩ := HJ.out
        have h1 := HE.out j (by omega) (by omega)
        omega
      obtain rfl := HQ.out
      go_wp2_with fail
      go_ret
      exact ⟨rfl, rfl⟩

set_option maxRecDepth 100000 in
set_option maxHeartbeats 2000000 in
theorem refRoot_none {H : ByteArray → ByteArray} (hS : RefLaw H) (ao : Option Addr) (cap : Nat) (w : World) :
    Calls Try.prog 29 #[.slice ao 0 cap] w fun e w' => e = .returned (.string (H ByteArray.empty)) ∧ Below w.heap.size w w' := by
  have C := Lib.hid (hS.2 ByteArray.empty (by decide) w)
  go_enter Try.func29, Try.ntmps29
  go_wp2_with fail
  refine C.out.mono ?_
  rintro e w1 ⟨rfl, hb1⟩
  go_wp2_with fail
  go_ret
  exact ⟨rfl, hb1⟩
set_option maxRecDepth 100000 in
set_option maxHeartbeats 2000000 in
theorem refRoot_leaf {H : ByteArray → ByteArray} (hS : RefLaw H) (b off cap : Nat) (s : ByteArray) (hs : s.size ≤ 1073741824) (w : World) (hc : w.cell? ⟨b, off, none⟩ = some (.string s)) :
    Calls Try.prog 29 #[.slice (some ⟨b, off, none⟩) 1 cap] w fun e w' => e = .returned (.string (H (Tre.leafB s))) ∧ Below w.heap.size w w' := by
  have C : Hid (∀ w, Calls Try.prog 21 #[.string (⟨#[0]⟩ ++ s)] w fun e w' => e = .returned (.string (H (Tre.leafB s))) ∧ Below w.heap.size w w') := fun w => hS.2 (Tre.leafB s) (by rw [Tre.leafB_size]; omega) w
  have hs1 : (s.size : Int) ≤ 1073741824 := by omega
  have hs2 : ((⟨#[0]⟩ : ByteArray).size : Int) = 1 := rfl
  generalize H (Tre.leafB s) = d at *
  clear hs
  go_enter Try.func29, Try.ntmps29
  go_wp2_with fail
  refine (C.out _).mono ?_
  rintro e w1 ⟨rfl, hb1⟩
  go_wp2_with fail
  go_ret
  exact ⟨rfl, hb1⟩
set_option maxRecDepth 100000 in
set_option maxHeartbeats 4000000 in
theorem refRoot_many {H : ByteArray → ByteArray} (hS : RefLaw H) (b off cap n k : Nat) (L R : ByteArray) (w : World) (h2 : 2 ≤ (n : Int)) (hn : (n : Int) ≤ (cap : Int)) (hcm : (cap : Int) ≤ 9223372036854775807) (hk : k = Tre.half n) (_ : 1 ≤ (k : Int)) (hkn : (k : Int) < (n : Int)) (hL : L.size = 32) (hR : R.size = 32)
    (CL : Hid (∀ w', Below w.heap.size w w' → Calls Try.prog 29 #[.slice (some ⟨b, off, none⟩) k cap] w' fun e w'' => e = .returned (.string L) ∧ Below w'.heap.size w' w''))
    (CR : Hid (∀ w', Below w.heap.size w w' → Calls Try.prog 29 #[.slice (some ⟨b, off + k, none⟩) (n - k) (cap - k)] w' fun e w'' => e = .returned (.string R) ∧ Below w'.heap.size w' w'')) :
    Calls Try.prog 29 #[.slice (some ⟨b, off, none⟩) n cap] w fun e w' => e = .returned (.string (H (Tre.nodeB L R))) ∧ Below w.heap.size w w' := by
  have CS := Lib.hid (fun w => half38_any n h2 (by omega) w)
  rw [← hk] at CS
  obtain ⟨T1, hT1⟩ : ∃ T1, T1 = (⟨#[1]⟩ : ByteArray) ++ L := ⟨_, rfl⟩
  obtain ⟨T, hT⟩ : ∃ T, T = T1 ++ R := ⟨_, rfl⟩
  have hTN : Tre.nodeB L R = T := by rw [hT, hT1]; rfl
  rw [hTN]
  have hz1 : ((⟨#[1]⟩ : ByteArray).size : Int) = 1 := rfl
  have hz2 : (L.size : Int) = 32 := by omega
  have hz3 : (R.size : Int) = 32 := by omega
  have hz4 : (T1.size : Int) = 33 := by rw [hT1, ByteArray.size_append, hL]; rfl
  have hz5 : T.size = 65 := by rw [hT, ByteArray.size_append, hR]; omega
  have CH := Lib.hid (fun w => hS.2 T (by omega) w)
  have hkc : (k : Int) < (cap : Int) := by omega
  have hkc0 : (k : Int) ≤ (cap : Int) := by omega
  have hkn0 : (k : Int) ≤ (n : Int) := by omega
  have hnz : ((n : Int) == 0) = false := by simp; omega
  have hno : ((n : Int) == 1) = false := by simp; omega
  have hn1 : 1 + L.size ≤ 9223372036854775807 := by omega
  have hn2 : T1.size + R.size ≤ 9223372036854775807 := by omega
  have hT1' : (⟨#[1]⟩ : ByteArray) ++ L = T1 := hT1.symm
  have hT' : T1 ++ R = T := hT.symm
  clear hk hL hR hT hT1 hTN hz5
  go_enter Try.func29, Try.ntmps29
  go_wp2_with fail
  refine (CS.out _).mono ?_
  rintro e w1 ⟨rfl, rfl⟩
  go_wp2_with fail
  refine wp_region_puts2 (R := fun i w' v => v = [Value.slice (some ⟨b, off, none⟩) n cap, .int .i64 (k : Int), .slice (some ⟨b, off, none⟩) k cap, .string L, .string T1, .slice (some ⟨b, off, none⟩) n cap, .int .i64 (k : Int), .slice (some ⟨b, off + k, none⟩) (n - k) (cap - k), .string R, .string T, .string (H T), .string (H T)].getD i undef)
    (by kernel_rfl) (by kernel_rfl) (by kernel_rfl) ?hRR (by kernel_rfl) (steps_of ?hs) ?hd
  case hRR =>
    intro i w1 w2 v hb hv
    exact hv
  case hs =>
    refine ⟨?_, ?_, ?_, ?_, ?_, ?_, ?_, ?_, ?_, ?_, ?_, ?_, trivial⟩
    · refine stepOk_value rfl fun a w5 ht => ?_
      have e0 : a.tmps[0]?.getD undef = .slice (some ⟨b, off, none⟩) n cap := ht.old' 0 (.slice (some ⟨b, off, none⟩) n cap) (by kernel_rfl) rfl
      exact ⟨Value.slice (some ⟨b, off, none⟩) n cap, w5, by go_simp, Below.refl _ _, rfl⟩
    · refine stepOk_value rfl fun a w5 ht => ?_
      have e3 : a.tmps[3]?.getD undef = .int .i64 (k : Int) := ht.old' 3 (.int .i64 (k : Int)) (by kernel_rfl) rfl
      exact ⟨.int .i64 (k : Int), w5, by go_simp, Below.refl _ _, rfl⟩
    · refine stepOk_value rfl fun a w5 ht => ?_
      have e19 : a.tmps[19]?.getD undef = Value.slice (some ⟨b, off, none⟩) n cap := ht.dep' 0 19 (by kernel_rfl) rfl
      have e20 : a.tmps[20]?.getD undef = .int .i64 (k : Int) := ht.dep' 1 20 (by kernel_rfl) rfl
      exact ⟨.slice (some ⟨b, off, none⟩) k cap, w5, by go_simp, Below.refl _ _, rfl⟩
    · refine stepOk_call rfl fun a w5 ht => ?_
      have e21 : a.tmps[21]?.getD undef = .slice (some ⟨b, off, none⟩) k cap := ht.dep' 2 21 (by kernel_rfl) rfl
      refine ⟨29, #[.slice (some ⟨b, off, none⟩) k cap], by go_simp, (CL.out _ ht.below).mono ?_⟩
      rintro e w' ⟨rfl, hb⟩
      exact ⟨_, rfl, hb, rfl⟩
    · refine stepOk_value rfl fun a w5 ht => ?_
      have e22 : a.tmps[22]?.getD undef = .string L := ht.dep' 3 22 (by kernel_rfl) rfl
      exact ⟨.string T1, w5, by go_simp, Below.refl _ _, rfl⟩
    · refine stepOk_value rfl fun a w5 ht => ?_
      have e0 : a.tmps[0]?.getD undef = .slice (some ⟨b, off, none⟩) n cap := ht.old' 0 (.slice (some ⟨b, off, none⟩) n cap) (by kernel_rfl) rfl
      exact ⟨.slice (some ⟨b, off, none⟩) n cap, w5, by go_simp, Below.refl _ _, rfl⟩
    · refine stepOk_value rfl fun a w5 ht => ?_
      have e3 : a.tmps[3]?.getD undef = .int .i64 (k : Int) := ht.old' 3 (.int .i64 (k : Int)) (by kernel_rfl) rfl
      exact ⟨.int .i64 (k : Int), w5, by go_simp, Below.refl _ _, rfl⟩
    · refine stepOk_value rfl fun a w5 ht => ?_
      have e24 : a.tmps[24]?.getD undef = .slice (some ⟨b, off, none⟩) n cap := ht.dep' 5 24 (by kernel_rfl) rfl
      have e25 : a.tmps[25]?.getD undef = .int .i64 (k : Int) := ht.dep' 6 25 (by kernel_rfl) rfl
      have hne : ¬ cap = k := by omega
      exact ⟨.slice (some ⟨b, off + k, none⟩) (n - k) (cap - k), w5, by go_simp, Below.refl _ _, rfl⟩
    · refine stepOk_call rfl fun a w5 ht => ?_
      have e26 : a.tmps[26]?.getD undef = .slice (some ⟨b, off + k, none⟩) (n - k) (cap - k) := ht.dep' 7 26 (by kernel_rfl) rfl
      refine ⟨29, #[.slice (some ⟨b, off + k, none⟩) (n - k) (cap - k)], by go_simp, (CR.out _ ht.below).mono ?_⟩
      rintro e w' ⟨rfl, hb⟩
      exact ⟨_, rfl, hb, rfl⟩
    · refine stepOk_value rfl fun a w5 ht => ?_
      have e23 : a.tmps[23]?.getD undef = .string T1 := ht.dep' 4 23 (by kernel_rfl) rfl
      have e27 : a.tmps[27]?.getD undef = .string R := ht.dep' 8 27 (by kernel_rfl) rfl
      exact ⟨.string T, w5, by go_simp, Below.refl _ _, rfl⟩
    · refine stepOk_call rfl fun a w5 ht => ?_
      have e28 : a.tmps[28]?.getD undef = .string T := ht.dep' 9 28 (by kernel_rfl) rfl
      refine ⟨21, #[.string T], by go_simp, (CH.out w5).mono ?_⟩
      rintro e w' ⟨rfl, hb⟩
      exact ⟨_, rfl, hb, rfl⟩
    · refine stepOk_value rfl fun a w5 ht => ?_
      have e29 : a.tmps[29]?.getD undef = .string (H T) := ht.dep' 10 29 (by kernel_rfl) rfl
      exact ⟨.string (H T), w5, by go_simp, Below.refl _ _, rfl⟩
  case hd =>
    intro vs w8 hl hb8 hvs
    have hl : vs.length = 12 := hl
    obtain ⟨v0, r0, rfl, l0⟩ := uncons vs hl
    obtain ⟨v1, r1, rfl, l1⟩ := uncons r0 l0
    obtain ⟨v2, r2, rfl, l2⟩ := uncons r1 l1
    obtain ⟨v3, r3, rfl, l3⟩ := uncons r2 l2
    obtain ⟨v4, r4, rfl, l4⟩ := uncons r3 l3
    obtain ⟨v5, r5, rfl, l5⟩ := uncons r4 l4
    obtain ⟨v6, r6, rfl, l6⟩ := uncons r5 l5
    obtain ⟨v7, r7, rfl, l7⟩ := uncons r6 l6
    obtain ⟨v8, r8, rfl, l8⟩ := uncons r7 l7
    obtain ⟨v9, r9, rfl, l9⟩ := uncons r8 l8
    obtain ⟨v10, r10, rfl, l10⟩ := uncons r9 l9
    obtain ⟨v11, r11, rfl, l11⟩ := uncons r10 l10
    obtain rfl := List.eq_nil_of_length_eq_zero l11
    have h11 : v11 = .string (H T) := hvs 11 (by decide)
    subst h11
    clear hvs
    simp only [puts, List.map, go_sem, List.setIfInBounds_toArray, List.set_cons_succ, List.set_cons_zero]
    go_wp2_with fail
    go_ret
    exact ⟨rfl, hb8⟩

/-- The document's Root tells the root. -/
theorem refRoot_any {H : ByteArray → ByteArray} (hS : RefLaw H) (f : Nat) : ∀ (l : List ByteArray) (ao : Option Addr) (n cap : Nat) (w : World), l.length ≤ f → n = l.length → StrsFit l cap → StrsAt w ao l → LeafOk l →
    Calls Try.prog 29 #[.slice ao n cap] w fun e w' => e = .returned (.string (Tre.rootB H l)) ∧ Below w.heap.size w w' := by
  induction f with
  | zero =>
    intro l ao n cap w h1 hn _ _ _
    have : l = [] := List.eq_nil_of_length_eq_zero (by omega)
    subst this hn
    exact refRoot_none hS ao cap w
  | succ f ih =>
    intro l ao n cap w h1 hn hf hc ho
    by_cases h0 : l = []
    · subst h0 hn
      exact refRoot_none hS ao cap w
    · obtain ⟨b, off, rfl, hb, hc'⟩ := strs_at hc h0
      have hpos : 0 < l.length := List.length_pos_iff.2 h0
      by_cases h2 : 2 ≤ l.length
      · have hcm := hf.2.1
        unfold maxLen at hcm
        have hlc := hf.1
        obtain ⟨a1, a2, a3⟩ := Tre.half_bounds h2 (by omega)
        rw [Tre.rootB_many H l h2 (by omega)]
        subst hn
        refine refRoot_many hS b off cap l.length (Tre.half l.length) _ _ w (by omega) (by omega) (by omega) rfl (by omega) (by omega) (Tre.root_size H hS.1 _) (Tre.root_size H hS.1 _) ?_ ?_
        · intro w' hb'
          exact ih _ _ _ _ w' (by rw [List.length_take]; omega) (by rw [List.length_take]; omega) (strsFit_take hf _) (strsAt_take (hc.below hb') _) (leafOk_take ho _)
        · intro w' hb'
          exact ih _ _ _ _ w' (by rw [List.length_drop]; omega) (by rw [List.length_drop]) (strsFit_drop hf _) (strsAt_drop (hc.below hb') _) (leafOk_drop ho _)
      · obtain ⟨s, rfl⟩ : ∃ s, l = [s] := List.length_eq_one_iff.1 (by omega)
        subst hn
        rw [Tre.rootB_one]
        exact refRoot_leaf hS b off cap s (ho s (by simp)) w (by simpa using hc' 0 (by simp))
end Go.Proofs.Ytbajgpbekanodaa
