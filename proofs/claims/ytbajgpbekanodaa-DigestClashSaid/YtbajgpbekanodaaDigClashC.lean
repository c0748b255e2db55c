/- What digest's Clash gives back, whatever it is given. Conditions: leaves of at most 2^30 bytes; at most 1000 texts in the proof. -/
import Derived.Test.YtbajgpbekanodaaDigClashB
namespace Go.Proofs.Ytbajgpbekanodaa
open Go.RowKit

/-- Whether a leaf that is not there is proved. -/
def clashB (H : ByteArray → ByteArray) (i : Int) (leaf : ByteArray) (ps l : List ByteArray) : Bool :=
  decide (0 ≤ i) && decide (i < (l.length : Int)) && decide (l.getD i.toNat ByteArray.empty ≠ leaf) && Tre.provesR H (Tre.rootB H l) l.length i leaf ps

theorem way_fits (H : ByteArray → ByteArray) (n i : Int) (leaf : ByteArray) (ps : List ByteArray) (h : Tre.fits n i ps = true) : (Tre.wayR H n i leaf ps).2 = true := by
  unfold Tre.wayR; rw [if_pos h]
theorem proves_parts {H : ByteArray → ByteArray} {root : ByteArray} {n i : Int} {leaf : ByteArray} {ps : List ByteArray} (h : Tre.provesR H root n i leaf ps = true) :
    Tre.fits n i ps = true ∧ H (Tre.topL H (Tre.leafB leaf) (Tre.sidesB n.toNat i.toNat) ps) = root := by
  unfold Tre.provesR at h
  simp only [Bool.and_eq_true, decide_eq_true_eq] at h
  exact h
theorem topP_zero (H : ByteArray → ByteArray) (t : ByteArray) (rs : List Bool) (ps : List ByteArray) : topP H t rs ps 0 = t := by
  unfold topP
  simp [Tre.topL]

theorem clash_any_yes {H : ByteArray → ByteArray} {ST : ByteArray → Sha.St} (hS : SumLaw H) (hst : ∀ a b, H a = H b → ST a = ST b)
    (CST : Hid (∀ s w, s.size ≤ 1099511627776 → Calls Try.prog 53 #[.string s] w fun e w' => e = .returned (.agg (cel (ST s).list)) ∧ Below w.heap.size w w'))
    (i : Int) (leaf : ByteArray) (hleaf : leaf.size ≤ 1073741824) (ps l : List ByteArray) (ap ao : Option Addr) (cp cap : Nat) (w : World) (hm : ps.length ≤ 1000)
    (hpf : StrsFit ps cp) (hpc : StrsAt w ap ps) (hf : StrsFit l cap) (hc : StrsAt w ao l) (ho : LeafOk l) (h : clashB H i leaf ps l = true) :
    Calls Try.prog 17 #[.int .i64 i, .string leaf, .slice ap ps.length cp, .slice ao l.length cap] w fun e w' => ClashOut H e ∧ Below w.heap.size w w' := by
  have hcm := hf.2.1
  unfold maxLen at hcm
  have hlc := hf.1
  unfold clashB at h
  simp only [Bool.and_eq_true, decide_eq_true_eq] at h
  obtain ⟨⟨⟨h1, h2⟩, h3⟩, h4⟩ := h
  obtain ⟨k, rfl⟩ := Int.eq_ofNat_of_zero_le h1
  have hk : k < l.length := by omega
  rw [Int.toNat_natCast] at h3
  obtain ⟨b, off, rfl, hbl, hcell⟩ := hc k hk
  have e : l.getD k ByteArray.empty = l[k] := by simp [List.getD, hk]
  rw [e] at hcell h3
  have hown := proves_own H hS.1 l (by omega) k hk
  obtain ⟨f1, t1⟩ := proves_parts hown
  obtain ⟨f2, t2⟩ := proves_parts h4
  have w1 := way_fits H l.length k l[k] _ f1
  have w2 := way_fits H l.length k leaf _ f2
  obtain ⟨a1, _, _, a4, a5⟩ := wayR_last H _ _ _ _ w1
  obtain ⟨b1, _, _, b4, b5⟩ := wayR_last H _ _ _ _ w2
  have hls : (l[k]).size ≤ 1073741824 := ho l[k] (List.getElem_mem hk)
  refine clash_found (ST := ST) hst CST b off l.length cap k ps.length l[k] leaf (Tre.rootB H l) (Tre.proofB H k l) (Tre.wayR H l.length k l[k] (Tre.proofB H k l)).1 (Tre.wayR H l.length k leaf ps).1 ap ps.length cp w h2 hbl hcell
    (by rw [bytes_beq]; exact decide_eq_false h3) (fun s hs => by have := a5 s hs; unfold maxLen; omega) (by omega) (by show _ = _; omega) b1
    (wayR_size H hS.1 _ _ _ _ hls) (wayR_size H hS.1 _ _ _ _ hleaf) ?_ ?_ ?_ ?_ ?_ ?_ ?_
  · show _ ≠ _
    rw [wayR_get H _ _ _ _ f1 0 (by omega), wayR_get H _ _ _ _ f2 0 (by omega), topP_zero, topP_zero]
    exact fun hh => h3 (Tre.leafB_inj hh)
  · intro j hj hup
    rw [wayR_get H _ _ _ _ f1 j (by omega), wayR_get H _ _ _ _ f2 j (by omega)]
    refine clash_level H hS.1 _ _ _ _ _ a4 b4 a5 b5 (by rw [t1, t2]) j (by omega) fun hlt => ?_
    have := hup (by omega)
    rw [wayR_get H _ _ _ _ f1 (j + 1) (by omega), wayR_get H _ _ _ _ f2 (j + 1) (by omega)] at this
    exact this
  · have := proof_any hS (k : Int) l _ l.length cap w rfl hf hc ho
    rw [show Tre.proofR H (k : Int) l = (Tre.proofB H k l, 0) by unfold Tre.proofR; rw [if_neg (by omega), Int.toNat_natCast]] at this
    exact this
  · intro w' hb'
    exact root_any hS l.length l _ l.length cap w' (Nat.le_refl _) rfl hf (hc.kept hb' (Nat.le_refl _)) ho
  · intro w' hb'
    have := proves_any hS (Tre.rootB H l) (l.length : Int) (k : Int) (by omega) leaf hleaf ps ap cp w' hpf (hpc.kept hb' (Nat.le_refl _))
    rw [h4] at this
    exact this
  · intro aq c w' hf' hc'
    have := way_any hS (l.length : Int) (k : Int) (by omega) l[k] hls (Tre.proofB H k l) aq c w' hf' hc'
    rw [w1] at this
    exact this
  · intro w' hb'
    have := way_any hS (l.length : Int) (k : Int) (by omega) leaf hleaf ps ap cp w' hpf (hpc.kept hb' (Nat.le_refl _))
    rw [w2] at this
    exact this

theorem clash_any_no {H : ByteArray → ByteArray} (hS : SumLaw H)
    (i : Int) (leaf : ByteArray) (hleaf : leaf.size ≤ 1073741824) (ps l : List ByteArray) (ap ao : Option Addr) (cp cap : Nat) (w : World)
    (hpf : StrsFit ps cp) (hpc : StrsAt w ap ps) (hf : StrsFit l cap) (hc : StrsAt w ao l) (ho : LeafOk l) (h : clashB H i leaf ps l = false) :
    Calls Try.prog 17 #[.int .i64 i, .string leaf, .slice ap ps.length cp, .slice ao l.length cap] w fun e w' => e = .returned (.tuple #[.string ByteArray.empty, .string ByteArray.empty, .bool false]) ∧ Below w.heap.size w w' := by
  have hcm := hf.2.1
  unfold maxLen at hcm
  have hlc := hf.1
  by_cases hi : i < 0 ∨ (l.length : Int) ≤ i
  · have := proof_any hS i l ao l.length cap w rfl hf hc ho
    rw [show Tre.proofR H i l = ([], 2) by unfold Tre.proofR; rw [if_pos hi]] at this
    exact clash_bad i leaf ap ao ps.length cp l.length cap w this
  · obtain ⟨k, rfl⟩ := Int.eq_ofNat_of_zero_le (show 0 ≤ i by omega)
    have hk : k < l.length := by omega
    obtain ⟨b, off, rfl, hbl, hcell⟩ := hc k hk
    have e : l.getD k ByteArray.empty = l[k] := by simp [List.getD, hk]
    rw [e] at hcell
    have hC1 := proof_any hS (k : Int) l _ l.length cap w rfl hf hc ho
    rw [show Tre.proofR H (k : Int) l = (Tre.proofB H k l, 0) by unfold Tre.proofR; rw [if_neg (by omega), Int.toNat_natCast]] at hC1
    have h32 := Tre.proof_sizes H hS.1 l.length k l (Nat.le_refl _) (by omega)
    by_cases hs : l[k] = leaf
    · subst hs
      exact clash_same b off l.length cap k l[k] (Tre.proofB H k l) ap ps.length cp w (by omega) hbl hcell (fun s hs => by have := h32 s hs; unfold maxLen; omega) hC1
    · have h4 : Tre.provesR H (Tre.rootB H l) l.length k leaf ps = false := by
        unfold clashB at h
        rw [Int.toNat_natCast, e, decide_eq_true (show (0 : Int) ≤ (k : Int) by omega), decide_eq_true (show (k : Int) < (l.length : Int) by omega), decide_eq_true (show l[k] ≠ leaf from hs)] at h
        simpa using h
      refine clash_unproved b off l.length cap k l[k] leaf (Tre.rootB H l) (Tre.proofB H k l) ap ps.length cp w (by omega) hbl hcell (by rw [bytes_beq]; exact decide_eq_false hs) (fun s hs => by have := h32 s hs; unfold maxLen; omega) hC1 ?_ ?_
      · intro w' hb'
        exact root_any hS l.length l _ l.length cap w' (Nat.le_refl _) rfl hf (hc.kept hb' (Nat.le_refl _)) ho
      · intro w' hb'
        have := proves_any hS (Tre.rootB H l) (l.length : Int) (k : Int) (by omega) leaf hleaf ps ap cp w' hpf (hpc.kept hb' (Nat.le_refl _))
        rw [h4] at this
        exact this
end Go.Proofs.Ytbajgpbekanodaa
