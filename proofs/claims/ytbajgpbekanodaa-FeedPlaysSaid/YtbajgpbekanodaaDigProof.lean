/- The walks over digest's Proof and sides, over whatever digest Sum makes. Conditions: a leaf is at most 2^30 bytes. -/
import Derived.Test.YtbajgpbekanodaaDigTree
import Derived.Test.YtbajgpbekanodaaOctRef
namespace Go.Proofs.Ytbajgpbekanodaa
open Go.RowKit

theorem owns_base {w : World} {B C e size n : Nat} {v : Value} {xs : List Value} (h : w.ownsRow C e size v n xs) (hB : B ≤ C) : w.ownsRow B e size v n xs := by
  obtain ⟨h1, h2⟩ := h
  refine ⟨h1, ?_⟩
  rcases h2 with h2 | ⟨g, cap, cur, hv, hg, r⟩
  · exact .inl h2
  · exact .inr ⟨g, cap, cur, hv, by omega, r⟩
/-- A list of texts of the call's own, and an error. -/
def OwnOut (w : World) (l : List ByteArray) (x : Value) (e : Ending) (w' : World) : Prop :=
  ∃ v, e = .returned (.tuple #[v, x]) ∧ w'.ownsRow w.heap.size 9 1 v l.length (l.map Value.string) ∧ Below w.heap.size w w'
theorem OwnOut.strs {w w' : World} {l : List ByteArray} {x : Value} {e : Ending} (h : OwnOut w l x e w') (hm : ∀ s ∈ l, s.size ≤ maxLen) : ∃ ao cap, e = .returned (.tuple #[.slice ao l.length cap, x]) ∧ StrsAt w' ao l ∧ StrsFit l cap ∧ Below w.heap.size w w' := by
  obtain ⟨v, rfl, h1, h2⟩ := h
  obtain ⟨ao, cap, rfl, h3, h4⟩ := strs_of_owns h1 hm
  exact ⟨ao, cap, rfl, h3, h4, h2⟩

set_option maxRecDepth 100000 in
set_option maxHeartbeats 2000000 in
theorem proof_bad (i : Int) (ao : Option Addr) (n cap : Nat) (w : World) (h : i < 0 ∨ (n : Int) ≤ i) (_ : (n : Int) ≤ 9223372036854775807) :
    Calls Try.prog 27 #[.int .i64 i, .slice ao n cap] w (OwnOut w [] (.int .i64 2)) := by
  by_cases h0 : i < 0
  · clear h
    go_enter Try.func27, Try.ntmps27
    go_wp2_with fail
    go_ret2
    exact ⟨_, rfl, World.ownsRow_nil _ _ _ _, Below.refl _ _⟩
  · have h1 : (n : Int) ≤ i := by omega
    clear h
    go_enter Try.func27, Try.ntmps27
    go_wp2_with fail
    go_ret2
    exact ⟨_, rfl, World.ownsRow_nil _ _ _ _, Below.refl _ _⟩
set_option maxRecDepth 100000 in
set_option maxHeartbeats 2000000 in
theorem proof_leaf (ao : Option Addr) (cap : Nat) (w : World) :
    Calls Try.prog 27 #[.int .i64 0, .slice ao 1 cap] w (OwnOut w [] (.int .i64 0)) := by
  go_enter Try.func27, Try.ntmps27
  go_wp2_with fail
  go_ret2
  exact ⟨_, rfl, World.ownsRow_nil _ _ _ _, Below.refl _ _⟩

set_option maxRecDepth 100000 in
set_option maxHeartbeats 4000000 in
theorem proof_left (b off cap n k i : Nat) (P : List ByteArray) (R : ByteArray) (w : World) (h2 : 2 ≤ (n : Int)) (hn : (n : Int) ≤ (cap : Int)) (hcm : (cap : Int) ≤ 9223372036854775807) (hk : k = Tre.half n) (hkn : (k : Int) < (n : Int)) (hik : (i : Int) < (k : Int)) (hP : P.length ≤ 100)
    (CP : Hid (∀ w', Below w.heap.size w w' → Calls Try.prog 27 #[.int .i64 (i : Int), .slice (some ⟨b, off, none⟩) k cap] w' (OwnOut w' P (.int .i64 0))))
    (CR : Hid (∀ w', Below w.heap.size w w' → Calls Try.prog 19 #[.slice (some ⟨b, off + k, none⟩) (n - k) (cap - k)] w' fun e w'' => e = .returned (.string R) ∧ Below w'.heap.size w' w'')) :
    Calls Try.prog 27 #[.int .i64 (i : Int), .slice (some ⟨b, off, none⟩) n cap] w (OwnOut w (P ++ [R]) (.int .i64 0)) := by
  have CS := Lib.hid (fun w => split_any n h2 (by omega) w)
  rw [← hk] at CS
  obtain ⟨i0, hi, hz0, hz1, hz2⟩ := info_parts infoStr
  have hkc : (k : Int) < (cap : Int) := by omega
  have hkc0 : (k : Int) ≤ (cap : Int) := by omega
  have hkn0 : (k : Int) ≤ (n : Int) := by omega
  have hne : ¬ cap = k := by omega
  have hin : (i : Int) < (n : Int) := by omega
  have hno : ((n : Int) == 1) = false := by simp; omega
  have HPL : Hid (P.length ≤ 100) := hP
  clear hk hP
  go_enter Try.func27, Try.ntmps27
  go_wp2_with fail
  refine (CS.out _).mono ?_
  rintro e w' ⟨rfl, rfl⟩
  go_wp2_with fail
  refine (CP.out _ (Below.refl _ _)).mono ?_
  rintro e w1 ⟨v, rfl, hown1, hb1⟩
  have HOWN1 := Lib.hid hown1
  clear hown1
  go_wp2_with fail
  refine (CR.out _ hb1).mono ?_
  rintro e w2 ⟨rfl, hb2⟩
  have hown := owns_kept HOWN1.out hb2 (Nat.le_refl _)
  have hb := hb1.trans (hb2.mono hb1.size)
  clear HOWN1 hb1 hb2 CP CR CS
  go_wp2_with (at_builtin; refine wpList_append_own _ rfl _ _ 22 rfl w.heap.size 9 i0 (.string ByteArray.empty) 1 16 Try.underlying22 hi hz0 hz1 hz2 rfl (by decide) _ P.length _ rfl (hown.alloc _) ⟨w2.heap.size, 0, none⟩ 1 1 [.string R] rfl rfl (cell_one_new _ _ _) ?c1 ?c2 ?c3 ?c4 ?_)
  case c1 => intro u hu; simp at hu; subst hu; rfl
  case c2 => have := HPL.out; unfold maxLen; omega
  case c3 => have := HPL.out; omega
  case c4 => have := hb.size; simp; omega
  intro v' w3 hown3 hgrow _
  have HF : Hid (w3.ownsRow w.heap.size 9 1 v' (P ++ [R]).length ((P ++ [R]).map Value.string) ∧ Below w.heap.size w w3) :=
    ⟨by simpa using hown3, (hb.alloc hb.size _).grown hgrow (by have := hb.size; simp; omega) (fun g hg => (hown.lt g hg).1)⟩
  clear hown3 hgrow hown hb
  go_wp2_with fail
  go_ret2
  exact ⟨_, rfl, HF.out.1, HF.out.2⟩
set_option maxRecDepth 100000 in
set_option maxHeartbeats 4000000 in
theorem proof_right (b off cap n k i : Nat) (P : List ByteArray) (L : ByteArray) (w : World) (h2 : 2 ≤ (n : Int)) (hn : (n : Int) ≤ (cap : Int)) (hcm : (cap : Int) ≤ 9223372036854775807) (hk : k = Tre.half n) (hkn : (k : Int) < (n : Int)) (hik : (k : Int) ≤ (i : Int)) (hin : (i : Int) < (n : Int)) (hP : P.length ≤ 100)
    (CP : Hid (∀ w', Below w.heap.size w w' → Calls Try.prog 27 #[.int .i64 ((i : Int) - (k : Int)), .slice (some ⟨b, off + k, none⟩) (n - k) (cap - k)] w' (OwnOut w' P (.int .i64 0))))
    (CR : Hid (∀ w', Below w.heap.size w w' → Calls Try.prog 19 #[.slice (some ⟨b, off, none⟩) k cap] w' fun e w'' => e = .returned (.string L) ∧ Below w'.heap.size w' w'')) :
    Calls Try.prog 27 #[.int .i64 (i : Int), .slice (some ⟨b, off, none⟩) n cap] w (OwnOut w (P ++ [L]) (.int .i64 0)) := by
  have CS := Lib.hid (fun w => split_any n h2 (by omega) w)
  rw [← hk] at CS
  obtain ⟨i0, hi, hz0, hz1, hz2⟩ := info_parts infoStr
  have hkc : (k : Int) < (cap : Int) := by omega
  have hkc0 : (k : Int) ≤ (cap : Int) := by omega
  have hkn0 : (k : Int) ≤ (n : Int) := by omega
  have hne : ¬ cap = k := by omega
  have hno : ((n : Int) == 1) = false := by simp; omega
  have hd : decide (i < k) = false := by simp; omega
  have HPL : Hid (P.length ≤ 100) := hP
  clear hk hP
  go_enter Try.func27, Try.ntmps27
  go_wp2_with fail
  refine (CS.out _).mono ?_
  rintro e w' ⟨rfl, rfl⟩
  go_wp2_with fail
  refine (CP.out _ (Below.refl _ _)).mono ?_
  rintro e w1 ⟨v, rfl, hown1, hb1⟩
  have HOWN1 := Lib.hid hown1
  clear hown1
  go_wp2_with fail
  refine (CR.out _ hb1).mono ?_
  rintro e w2 ⟨rfl, hb2⟩
  have hown := owns_kept HOWN1.out hb2 (Nat.le_refl _)
  have hb := hb1.trans (hb2.mono hb1.size)
  clear HOWN1 hb1 hb2 CP CR CS
  go_wp2_with (at_builtin; refine wpList_append_own _ rfl _ _ 22 rfl w.heap.size 9 i0 (.string ByteArray.empty) 1 16 Try.underlying22 hi hz0 hz1 hz2 rfl (by decide) _ P.length _ rfl (hown.alloc _) ⟨w2.heap.size, 0, none⟩ 1 1 [.string L] rfl rfl (cell_one_new _ _ _) ?c1 ?c2 ?c3 ?c4 ?_)
  case c1 => intro u hu; simp at hu; subst hu; rfl
  case c2 => have := HPL.out; unfold maxLen; omega
  case c3 => have := HPL.out; omega
  case c4 => have := hb.size; simp; omega
  intro v' w3 hown3 hgrow _
  have HF : Hid (w3.ownsRow w.heap.size 9 1 v' (P ++ [L]).length ((P ++ [L]).map Value.string) ∧ Below w.heap.size w w3) :=
    ⟨by simpa using hown3, (hb.alloc hb.size _).grown hgrow (by have := hb.size; simp; omega) (fun g hg => (hown.lt g hg).1)⟩
  clear hown3 hgrow hown hb
  go_wp2_with fail
  go_ret2
  exact ⟨_, rfl, HF.out.1, HF.out.2⟩

theorem proof_short (H : ByteArray → ByteArray) (i : Nat) (l : List ByteArray) (h : l.length ≤ 9223372036854775807) (hi : i < l.length) : (Tre.proofB H i l).length ≤ 63 := by
  rw [Tre.proof_length H l.length i l (Nat.le_refl _) (by omega) hi]
  exact Tre.sides_le 63 l.length i (by omega) (Nat.le_refl _)
theorem proof_in {H : ByteArray → ByteArray} (hS : SumLaw H) (f : Nat) : ∀ (i : Nat) (l : List ByteArray) (ao : Option Addr) (n cap : Nat) (w : World), l.length ≤ f → n = l.length → i < l.length → StrsFit l cap → StrsAt w ao l → LeafOk l →
    Calls Try.prog 27 #[.int .i64 (i : Int), .slice ao n cap] w (OwnOut w (Tre.proofB H i l) (.int .i64 0)) := by
  induction f with
  | zero => intro i l ao n cap w h1 _ h3 _ _ _; omega
  | succ f ih =>
    intro i l ao n cap w h1 hn hil hf hc ho
    have hpos : 0 < l.length := by omega
    obtain ⟨b, off, rfl, hb, hc'⟩ := strs_at hc (List.length_pos_iff.1 hpos)
    have hcm := hf.2.1
    unfold maxLen at hcm
    have hlc := hf.1
    by_cases h2 : 2 ≤ l.length
    · obtain ⟨a1, a2, a3⟩ := Tre.half_bounds h2 (by omega)
      rw [Tre.proofB_many H i l h2 (by omega)]
      subst hn
      have el : (l.take (Tre.half l.length)).length = Tre.half l.length := by rw [List.length_take]; omega
      have er : (l.drop (Tre.half l.length)).length = l.length - Tre.half l.length := by rw [List.length_drop]
      by_cases hi : i < Tre.half l.length
      · rw [if_pos hi]
        refine proof_left b off cap l.length (Tre.half l.length) i _ _ w (by omega) (by omega) (by omega) rfl (by omega) (by omega) (by have := proof_short H i (l.take (Tre.half l.length)) (by omega) (by omega); omega) ?_ ?_
        · intro w' hb'
          exact ih i _ _ _ _ w' (by omega) el.symm (by omega) (strsFit_take hf _) (strsAt_take (hc.below hb') _) (leafOk_take ho _)
        · intro w' hb'
          exact root_any hS _ _ _ _ _ w' (Nat.le_refl _) er.symm (strsFit_drop hf _) (strsAt_drop (hc.below hb') _) (leafOk_drop ho _)
      · rw [if_neg hi]
        refine proof_right b off cap l.length (Tre.half l.length) i _ _ w (by omega) (by omega) (by omega) rfl (by omega) (by omega) (by omega) (by have := proof_short H (i - Tre.half l.length) (l.drop (Tre.half l.length)) (by omega) (by omega); omega) ?_ ?_
        · intro w' hb'
          rw [show (i : Int) - ((Tre.half l.length : Nat) : Int) = ((i - Tre.half l.length : Nat) : Int) by omega]
          exact ih (i - Tre.half l.length) _ _ _ _ w' (by omega) er.symm (by omega) (strsFit_drop hf _) (strsAt_drop (hc.below hb') _) (leafOk_drop ho _)
        · intro w' hb'
          exact root_any hS _ _ _ _ _ w' (Nat.le_refl _) el.symm (strsFit_take hf _) (strsAt_take (hc.below hb') _) (leafOk_take ho _)
    · have h1' : l.length = 1 := by omega
      have hi0 : i = 0 := by omega
      subst hi0
      rw [h1'] at hn
      subst hn
      rw [Tre.proofB_few H 0 l (by omega)]
      exact proof_leaf _ cap w
/-- digest.Proof tells the proof, or an error. -/
theorem proof_any {H : ByteArray → ByteArray} (hS : SumLaw H) (i : Int) (l : List ByteArray) (ao : Option Addr) (n cap : Nat) (w : World) (hn : n = l.length) (hf : StrsFit l cap) (hc : StrsAt w ao l) (ho : LeafOk l) :
    Calls Try.prog 27 #[.int .i64 i, .slice ao n cap] w (OwnOut w (Tre.proofR H i l).1 (.int .i64 (Tre.proofR H i l).2)) := by
  have hcm := hf.2.1
  unfold maxLen at hcm
  have hlc := hf.1
  unfold Tre.proofR
  by_cases h : i < 0 ∨ (l.length : Int) ≤ i
  · rw [if_pos h]
    subst hn
    exact proof_bad i ao l.length cap w h (by omega)
  · rw [if_neg h]
    obtain ⟨j, rfl⟩ := Int.eq_ofNat_of_zero_le (show 0 ≤ i by omega)
    rw [Int.toNat_natCast]
    exact proof_in hS l.length j l ao n cap w (Nat.le_refl _) hn (by omega) hf hc ho
end Go.Proofs.Ytbajgpbekanodaa
