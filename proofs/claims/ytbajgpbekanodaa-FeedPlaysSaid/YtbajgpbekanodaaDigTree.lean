/- The walks over digest's split, leafText, nodeText, Root, over whatever digest Sum makes. Conditions: a leaf is at most 2^30 bytes. -/
import Derived.Test.YtbajgpbekanodaaDigSum
import Derived.Test.YtbajgpbekanodaaTreeMath
import Derived.Test.YtbajgpbekanodaaRegion
namespace Go.Proofs.Ytbajgpbekanodaa
open Go.RowKit

/-- What Sum makes. -/
def SumLaw (H : ByteArray → ByteArray) : Prop := (∀ s, (H s).size = 32) ∧ ∀ (ao : Option Addr) (n cap : Nat) (ss : List ByteArray) (w : World), n = ss.length → StrsFit ss cap → StrsAt w ao ss → (jnB ss).size ≤ 150000000000000 → n ≤ 1 ∨ (jnB ss).size ≤ 140737488355328 →
  Calls Try.prog 20 #[.slice ao n cap] w fun e w' => e = .returned (.string (H (jnB ss))) ∧ Below w.heap.size w w'
theorem sum_law : SumLaw shaB := ⟨shaB_size, fun ao n cap ss w hn hf hc hle h1 => sum38_any ao n cap ss w hn hf hc hle h1⟩
theorem jn_one (t : ByteArray) : jnB [t] = t := by simp [jnB]
theorem fits_one38 (t : ByteArray) (h : t.size ≤ 150000000000000) : StrsFit [t] 1 := ⟨by simp, by simp [maxLen], by intro s hs; simp at hs; subst hs; unfold maxLen; omega⟩
/-- Sum of one text, where it lies. -/
theorem sum_one {H : ByteArray → ByteArray} (hS : SumLaw H) (t : ByteArray) (ht : t.size ≤ 150000000000000) (ao : Option Addr) (w : World) (h : StrsAt w ao [t]) :
    Calls Try.prog 20 #[.slice ao 1 1] w fun e w' => e = .returned (.string (H t)) ∧ Below w.heap.size w w' := by
  have := hS.2 ao 1 1 [t] w rfl (fits_one38 t ht) h (by rw [jn_one]; exact ht) (Or.inl (by omega))
  rwa [jn_one] at this

theorem strsAt_append {w : World} {ao : Option Addr} {a b : List ByteArray} (h : StrsAt w ao (a ++ b)) : StrsAt w ao a := by
  intro i hi
  obtain ⟨bl, off, h1, h2, h3⟩ := h i (by simp; omega)
  refine ⟨bl, off, h1, h2, ?_⟩
  rw [h3]
  simp [List.getD, List.getElem?_append_left hi]
theorem strsAt_take {w : World} {ao : Option Addr} {ss : List ByteArray} (h : StrsAt w ao ss) (k : Nat) : StrsAt w ao (ss.take k) :=
  strsAt_append (b := ss.drop k) (by rw [List.take_append_drop]; exact h)
theorem strsAt_drop {w : World} {b off : Nat} {ss : List ByteArray} (h : StrsAt w (some ⟨b, off, none⟩) ss) (k : Nat) : StrsAt w (some ⟨b, off + k, none⟩) (ss.drop k) := by
  intro i hi
  simp at hi
  obtain ⟨b', off', h1, h2, h3⟩ := h (k + i) (by omega)
  simp only [Option.some.injEq, Addr.mk.injEq, and_true] at h1
  obtain ⟨rfl, rfl⟩ := h1
  refine ⟨b, off + k, rfl, h2, ?_⟩
  rw [show off + k + i = off + (k + i) by omega, h3]
  simp [List.getD, List.getElem?_drop]
theorem strsFit_take {ss : List ByteArray} {cap : Nat} (h : StrsFit ss cap) (k : Nat) : StrsFit (ss.take k) cap :=
  ⟨by have := h.1; simp; omega, h.2.1, fun s hs => h.2.2 s (List.mem_of_mem_take hs)⟩
theorem strsFit_drop {ss : List ByteArray} {cap : Nat} (h : StrsFit ss cap) (k : Nat) : StrsFit (ss.drop k) (cap - k) :=
  ⟨by have := h.1; simp; omega, by have := h.2.1; omega, fun s hs => h.2.2 s (List.mem_of_mem_drop hs)⟩

set_option maxRecDepth 100000 in
set_option maxHeartbeats 1000000 in
theorem leafText_any (s : ByteArray) (hs : s.size ≤ 1099511627775) (w : World) :
    Calls Try.prog 54 #[.string s] w fun e w' => e = .returned (.string (Tre.leafB s)) ∧ w = w' := by
  have hs2 : (s.size : Int) ≤ 1099511627775 := by omega
  have h1 : ((⟨#[0]⟩ : ByteArray).size : Int) = 1 := rfl
  clear hs
  go_enter Try.func54, Try.ntmps54
  go_wp2_with fail
  go_ret
  exact ⟨rfl, rfl⟩
set_option maxRecDepth 100000 in
set_option maxHeartbeats 1000000 in
theorem nodeText_any (a b : ByteArray) (ha : a.size ≤ 1099511627775) (hb : b.size ≤ 1099511627775) (w : World) :
    Calls Try.prog 56 #[.string a, .string b] w fun e w' => e = .returned (.string (Tre.nodeB a b)) ∧ w = w' := by
  have ha2 : (a.size : Int) ≤ 1099511627775 := by omega
  have hb2 : (b.size : Int) ≤ 1099511627775 := by omega
  have h1 : ((⟨#[1]⟩ : ByteArray).size : Int) = 1 := rfl
  have h2 : (((⟨#[1]⟩ : ByteArray) ++ a).size : Int) = 1 + (a.size : Int) := by rw [ByteArray.size_append]; simp; rfl
  clear ha hb
  go_enter Try.func56, Try.ntmps56
  go_wp2_with fail
  go_ret
  exact ⟨rfl, rfl⟩
set_option maxRecDepth 100000 in
set_option maxHeartbeats 1000000 in
theorem split_any (n : Nat) (h2 : 2 ≤ (n : Int)) (hn : (n : Int) ≤ 9223372036854775807) (w : World) :
    Calls Try.prog 55 #[.int .i64 (n : Int)] w fun e w' => e = .returned (.int .i64 (Tre.half n : Nat)) ∧ w = w' := by
  obtain ⟨b1, b2, b3, b4⟩ := Tre.bitLen_bounds (n - 1) (by omega) (by omega)
  have hle : Lib.bitLen (n - 1) ≤ 63 := Lib.bitLen_le (n - 1) 63 (by omega) (by omega)
  have C := Lib.hid ((Try.bits_Len ((n - 1 : Nat) : Int) w (by omega) (by omega)).mono (R' := fun e w' => e = .returned (.int .i64 (Lib.bitLen (n - 1) : Nat)) ∧ w = w') fun e w' h => ⟨by rw [Int.toNat_natCast] at h; exact h.1, h.2.symm⟩)
  have HH : Hid (Tre.half n = 2 ^ (Lib.bitLen (n - 1) - 1)) := rfl
  obtain ⟨m, hm⟩ : ∃ m, n - 1 = m := ⟨_, rfl⟩
  rw [hm] at C HH b1 b2 b3 b4 hle
  have hm2 : (n : Int) - 1 = (m : Int) := by omega
  generalize Lib.bitLen m = b at *
  obtain ⟨p, hp⟩ : ∃ p, b - 1 = p := ⟨_, rfl⟩
  rw [hp] at HH b3
  have hbp : (b : Int) - 1 = (p : Int) := by omega
  have hp62 : (p : Int) ≤ 62 := by omega
  clear hm hp b1 b2 b3 b4 hle
  go_enter Try.func55, Try.ntmps55
  go_wp2_with fail
  refine C.out.mono ?_
  rintro e w' ⟨rfl, rfl⟩
  go_wp2_with fail
  go_ret
  refine ⟨?_, rfl⟩
  have hpow : (2 : Nat) ^ p ≤ 2 ^ 62 := Nat.pow_le_pow_right (by omega) (by omega)
  obtain ⟨q, hq⟩ : ∃ q, (2 : Nat) ^ p = q := ⟨_, rfl⟩
  have e1 : (2 : Int) ^ p = (q : Int) := by rw [← hq]; simp
  rw [hq] at hpow HH
  simp only [Nat.reducePow] at hpow
  have e2 : wrap64 ((2 : Int) ^ p) = (q : Int) := by
    rw [e1]
    exact IntWalk.wrap64_in _ ⟨by omega, by omega⟩
  rw [HH.out]
  first | (rw [← e2]; rfl) | (rw [← e1]; rfl)

/-! ### Root -/
/-- Leaves that are no longer than this. -/
def LeafOk (l : List ByteArray) : Prop := ∀ s ∈ l, s.size ≤ 1073741824
theorem leafOk_take {l : List ByteArray} (h : LeafOk l) (k : Nat) : LeafOk (l.take k) := fun s hs => h s (List.mem_of_mem_take hs)
theorem leafOk_drop {l : List ByteArray} (h : LeafOk l) (k : Nat) : LeafOk (l.drop k) := fun s hs => h s (List.mem_of_mem_drop hs)

set_option maxRecDepth 100000 in
set_option maxHeartbeats 2000000 in
theorem root_none {H : ByteArray → ByteArray} (hS : SumLaw H) (ao : Option Addr) (cap : Nat) (w : World) :
    Calls Try.prog 19 #[.slice ao 0 cap] w fun e w' => e = .returned (.string (H ByteArray.empty)) ∧ Below w.heap.size w w' := by
  have C := Lib.hid (hS.2 none 0 0 [] w rfl ⟨by simp, by simp [maxLen], by simp⟩ (fun i hi => by simp at hi) (by decide) (Or.inl (by omega)))
  have HE : Hid (jnB [] = ByteArray.empty) := rfl
  rw [HE.out] at C
  go_enter Try.func19, Try.ntmps19
  go_wp2_with fail
  refine C.out.mono ?_
  rintro e w1 ⟨rfl, hb1⟩
  go_wp2_with fail
  go_ret
  exact ⟨rfl, hb1⟩
set_option maxRecDepth 100000 in
set_option maxHeartbeats 2000000 in
theorem root_leaf {H : ByteArray → ByteArray} (hS : SumLaw H) (b off cap : Nat) (s : ByteArray) (hs : s.size ≤ 1073741824) (w : World) (hc : w.cell? ⟨b, off, none⟩ = some (.string s)) :
    Calls Try.prog 19 #[.slice (some ⟨b, off, none⟩) 1 cap] w fun e w' => e = .returned (.string (H (Tre.leafB s))) ∧ Below w.heap.size w w' := by
  have C1 := Lib.hid (leafText_any s (by omega))
  have C2 := Lib.hid (fun ao w h => sum_one hS (Tre.leafB s) (by rw [Tre.leafB_size]; omega) ao w h)
  generalize Tre.leafB s = t at *
  clear hs
  go_enter Try.func19, Try.ntmps19
  go_wp2_with fail
  refine (C1.out _).mono ?_
  rintro e w1 ⟨rfl, rfl⟩
  go_wp2_with fail
  refine (C2.out _ _ (strs_new _ _ _ _ rfl _ rfl)).mono ?_
  rintro e w1 ⟨rfl, hb1⟩
  go_wp2_with fail
  go_ret
  exact ⟨rfl, ((Below.refl _ _).alloc (Nat.le_refl _) _).trans (hb1.mono (by simp))⟩

set_option maxRecDepth 100000 in
set_option maxHeartbeats 4000000 in
theorem root_many {H : ByteArray → ByteArray} (hS : SumLaw H) (b off cap n k : Nat) (L R : ByteArray) (w : World) (h2 : 2 ≤ (n : Int)) (hn : (n : Int) ≤ (cap : Int)) (hcm : (cap : Int) ≤ 9223372036854775807) (hk : k = Tre.half n) (_ : 1 ≤ (k : Int)) (hkn : (k : Int) < (n : Int)) (hL : L.size = 32) (hR : R.size = 32)
    (CL : Hid (∀ w', Below w.heap.size w w' → Calls Try.prog 19 #[.slice (some ⟨b, off, none⟩) k cap] w' fun e w'' => e = .returned (.string L) ∧ Below w'.heap.size w' w''))
    (CR : Hid (∀ w', Below w.heap.size w w' → Calls Try.prog 19 #[.slice (some ⟨b, off + k, none⟩) (n - k) (cap - k)] w' fun e w'' => e = .returned (.string R) ∧ Below w'.heap.size w' w'')) :
    Calls Try.prog 19 #[.slice (some ⟨b, off, none⟩) n cap] w fun e w' => e = .returned (.string (H (Tre.nodeB L R))) ∧ Below w.heap.size w w' := by
  have CS := Lib.hid (fun w => split_any n h2 (by omega) w)
  rw [← hk] at CS
  have CN := Lib.hid (nodeText_any L R (by omega) (by omega))
  have CH := Lib.hid (fun ao w h => sum_one hS (Tre.nodeB L R) (by rw [Tre.nodeB_size]; omega) ao w h)
  generalize Tre.nodeB L R = T at *
  have hkc : (k : Int) < (cap : Int) := by omega
  have hkc0 : (k : Int) ≤ (cap : Int) := by omega
  have hkn0 : (k : Int) ≤ (n : Int) := by omega
  have hnz : ((n : Int) == 0) = false := by simp; omega
  have hno : ((n : Int) == 1) = false := by simp; omega
  clear hk hL hR
  go_enter Try.func19, Try.ntmps19
  go_wp2_with fail
  refine (CS.out _).mono ?_
  rintro e w1 ⟨rfl, rfl⟩
  go_wp2_with fail
  refine wp_region_puts (R := fun i w' v => if i = 9 then ∃ ao, v = .slice ao 1 1 ∧ StrsAt w' ao [T] else v = [Value.slice (some ⟨b, off, none⟩) n cap, .int .i64 (k : Int), .slice (some ⟨b, off, none⟩) k cap, .string L, .slice (some ⟨b, off, none⟩) n cap, .int .i64 (k : Int), .slice (some ⟨b, off + k, none⟩) (n - k) (cap - k), .string R, .string T, undef, .string (H T), .string (H T)].getD i undef)
    (by kernel_rfl) (by kernel_rfl) (by kernel_rfl) ?hRR (by kernel_rfl) (steps_of ?hs) ?hd
  case hRR =>
    intro i w1 w2 v hb hv
    split at hv
    · rename_i h9
      rw [if_pos h9]
      obtain ⟨ao, h1, h2⟩ := hv
      exact ⟨ao, h1, h2.below hb⟩
    · rename_i h9
      rw [if_neg h9]; exact hv
  case hs =>
    refine ⟨?_, ?_, ?_, ?_, ?_, ?_, ?_, ?_, ?_, ?_, ?_, ?_, trivial⟩
    · refine stepOk_value rfl fun a w ht => ?_
      have e1 := ht.old' 0 (.slice (some ⟨b, off, none⟩) n cap) (by kernel_rfl) rfl
      exact ⟨_, w, by go_simp, Below.refl _ _, rfl⟩
    · refine stepOk_value rfl fun a w ht => ?_
      have e1 := ht.old' 4 (.int .i64 (k : Int)) (by kernel_rfl) rfl
      exact ⟨_, w, by go_simp, Below.refl _ _, rfl⟩
    · refine stepOk_value rfl fun a w ht => ?_
      have e1 : a.tmps[10]?.getD undef = .slice (some ⟨b, off, none⟩) n cap := ht.dep' 0 10 (by kernel_rfl) rfl
      have e2 : a.tmps[11]?.getD undef = .int .i64 (k : Int) := ht.dep' 1 11 (by kernel_rfl) rfl
      refine ⟨.slice (some ⟨b, off, none⟩) k cap, w, ?_, Below.refl _ _, rfl⟩
      go_simp
    · refine stepOk_call rfl fun a w5 ht => ?_
      have e1 : a.tmps[12]?.getD undef = .slice (some ⟨b, off, none⟩) k cap := ht.dep' 2 12 (by kernel_rfl) rfl
      refine ⟨19, #[.slice (some ⟨b, off, none⟩) k cap], by go_simp, (CL.out _ ht.below).mono ?_⟩
      rintro e w' ⟨rfl, hb⟩
      exact ⟨_, rfl, hb, rfl⟩
    · refine stepOk_value rfl fun a w ht => ?_
      have e1 := ht.old' 0 (.slice (some ⟨b, off, none⟩) n cap) (by kernel_rfl) rfl
      exact ⟨_, w, by go_simp, Below.refl _ _, rfl⟩
    · refine stepOk_value rfl fun a w ht => ?_
      have e1 := ht.old' 4 (.int .i64 (k : Int)) (by kernel_rfl) rfl
      exact ⟨_, w, by go_simp, Below.refl _ _, rfl⟩
    · refine stepOk_value rfl fun a w ht => ?_
      have e1 : a.tmps[14]?.getD undef = .slice (some ⟨b, off, none⟩) n cap := ht.dep' 4 14 (by kernel_rfl) rfl
      have e2 : a.tmps[15]?.getD undef = .int .i64 (k : Int) := ht.dep' 5 15 (by kernel_rfl) rfl
      have hne : ¬ cap = k := by omega
      refine ⟨.slice (some ⟨b, off + k, none⟩) (n - k) (cap - k), w, ?_, Below.refl _ _, rfl⟩
      go_simp
    · refine stepOk_call rfl fun a w5 ht => ?_
      have e1 : a.tmps[16]?.getD undef = .slice (some ⟨b, off + k, none⟩) (n - k) (cap - k) := ht.dep' 6 16 (by kernel_rfl) rfl
      refine ⟨19, #[.slice (some ⟨b, off + k, none⟩) (n - k) (cap - k)], by go_simp, (CR.out _ ht.below).mono ?_⟩
      rintro e w' ⟨rfl, hb⟩
      exact ⟨_, rfl, hb, rfl⟩
    · refine stepOk_call rfl fun a w5 ht => ?_
      have e1 : a.tmps[13]?.getD undef = .string L := ht.dep' 3 13 (by kernel_rfl) rfl
      have e2 : a.tmps[17]?.getD undef = .string R := ht.dep' 7 17 (by kernel_rfl) rfl
      refine ⟨56, #[.string L, .string R], by go_simp, (CN.out _).mono ?_⟩
      rintro e w' ⟨rfl, rfl⟩
      exact ⟨_, rfl, Below.refl _ _, rfl⟩
    · refine stepOk_value rfl fun a w5 ht => ?_
      have e1 : a.tmps[18]?.getD undef = .string T := ht.dep' 8 18 (by kernel_rfl) rfl
      refine ⟨.slice (some ⟨w5.heap.size, 0, none⟩) 1 1, w5.alloc (.cells #[.string T] 9), ?_, (Below.refl _ _).alloc (Nat.le_refl _) _, ?_⟩
      · go_simp
      · exact ⟨_, rfl, strs_new _ _ _ _ rfl _ rfl⟩
    · refine stepOk_call rfl fun a w5 ht => ?_
      have e1 : ∃ ao, a.tmps[19]?.getD undef = .slice ao 1 1 ∧ StrsAt w5 ao [T] := ht.dep' 9 19 (by kernel_rfl) rfl
      obtain ⟨ao, e1, hst⟩ := e1
      refine ⟨20, #[.slice ao 1 1], by go_simp, (CH.out ao _ hst).mono ?_⟩
      rintro e w' ⟨rfl, hb⟩
      exact ⟨_, rfl, hb, rfl⟩
    · refine stepOk_value rfl fun a w ht => ?_
      have e1 : a.tmps[20]?.getD undef = .string (H T) := ht.dep' 10 20 (by kernel_rfl) rfl
      exact ⟨_, w, by go_simp, Below.refl _ _, rfl⟩
  case hd =>
    intro vs w2 hl hb2 hvs
    match vs, hl with
    | [v0, v1, v2, v3, v4, v5, v6, v7, v8, v9, v10, v11], _ =>
      have h11 : v11 = .string (H T) := hvs 11 (by decide)
      subst h11
      clear hvs
      simp only [puts, List.map, go_sem, List.setIfInBounds_toArray, List.set_cons_succ, List.set_cons_zero]
      go_wp2_with fail
      go_ret
      exact ⟨rfl, hb2⟩

/-- digest.Root tells the root. -/
theorem root_any {H : ByteArray → ByteArray} (hS : SumLaw H) (f : Nat) : ∀ (l : List ByteArray) (ao : Option Addr) (n cap : Nat) (w : World), l.length ≤ f → n = l.length → StrsFit l cap → StrsAt w ao l → LeafOk l →
    Calls Try.prog 19 #[.slice ao n cap] w fun e w' => e = .returned (.string (Tre.rootB H l)) ∧ Below w.heap.size w w' := by
  induction f with
  | zero =>
    intro l ao n cap w h1 hn _ _ _
    have : l = [] := List.eq_nil_of_length_eq_zero (by omega)
    subst this hn
    exact root_none hS ao cap w
  | succ f ih =>
    intro l ao n cap w h1 hn hf hc ho
    by_cases h0 : l = []
    · subst h0 hn
      exact root_none hS ao cap w
    · obtain ⟨b, off, rfl, hb, hc'⟩ := strs_at hc h0
      have hpos : 0 < l.length := List.length_pos_iff.2 h0
      by_cases h2 : 2 ≤ l.length
      · have hcm := hf.2.1
        unfold maxLen at hcm
        have hlc := hf.1
        obtain ⟨a1, a2, a3⟩ := Tre.half_bounds h2 (by omega)
        rw [Tre.rootB_many H l h2 (by omega)]
        subst hn
        refine root_many hS b off cap l.length (Tre.half l.length) _ _ w (by omega) (by omega) (by omega) rfl (by omega) (by omega) (Tre.root_size H hS.1 _) (Tre.root_size H hS.1 _) ?_ ?_
        · intro w' hb'
          exact ih _ _ _ _ w' (by rw [List.length_take]; omega) (by rw [List.length_take]; omega) (strsFit_take hf _) (strsAt_take (hc.below hb') _) (leafOk_take ho _)
        · intro w' hb'
          exact ih _ _ _ _ w' (by rw [List.length_drop]; omega) (by rw [List.length_drop]) (strsFit_drop hf _) (strsAt_drop (hc.below hb') _) (leafOk_drop ho _)
      · obtain ⟨s, rfl⟩ : ∃ s, l = [s] := List.length_eq_one_iff.1 (by omega)
        subst hn
        rw [Tre.rootB_one]
        exact root_leaf hS b off cap s (ho s (by simp)) w (by simpa using hc' 0 (by simp))
end Go.Proofs.Ytbajgpbekanodaa
