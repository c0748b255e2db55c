/- The walk over digest's Proves, over whatever digest Sum makes. Conditions: a leaf is at most 2^30 bytes. -/
import Derived.Test.YtbajgpbekanodaaDigWay
namespace Go.Proofs.Ytbajgpbekanodaa
open Go.RowKit

theorem bytes_beq (x y : ByteArray) : (x.toList == y.toList) = decide (x = y) := by
  rw [ByteArray.toList_eq, ByteArray.toList_eq]
  by_cases h : x = y
  · subst h; simp
  · rw [decide_eq_false h, beq_eq_false_iff_ne]
    exact fun h2 => h (ByteArray.ext (Array.ext' h2))
theorem wayR_last (H : ByteArray → ByteArray) (n i : Int) (leaf : ByteArray) (ps : List ByteArray) (h : (Tre.wayR H n i leaf ps).2 = true) :
    (Tre.wayR H n i leaf ps).1.length = ps.length + 1 ∧ (Tre.wayR H n i leaf ps).1.getD ps.length ByteArray.empty = Tre.topL H (Tre.leafB leaf) (Tre.sidesB n.toNat i.toNat) ps ∧ Tre.fits n i ps = true ∧
      (Tre.sidesB n.toNat i.toNat).length = ps.length ∧ (∀ p ∈ ps, p.size = 32) := by
  unfold Tre.wayR at *
  by_cases hf : Tre.fits n i ps = true
  · rw [if_pos hf] at *
    have hf2 := hf
    unfold Tre.fits at hf2
    simp only [Bool.and_eq_true, decide_eq_true_eq, List.all_eq_true] at hf2
    obtain ⟨⟨⟨_, _⟩, h3⟩, h4⟩ := hf2
    refine ⟨?_, ?_, hf, h3, fun p hp => by simpa using h4 p hp⟩
    · show (Tre.wayL H _ _ _).length = _
      rw [Tre.wayL_length H _ _ _ h3, h3]
    · show (Tre.wayL H _ _ _).getD _ _ = _
      rw [← h3, Tre.wayL_last H _ _ _ h3]
  · rw [if_neg hf] at h; cases h
theorem wayR_false (H : ByteArray → ByteArray) (root : ByteArray) (n i : Int) (leaf : ByteArray) (ps : List ByteArray) (h : (Tre.wayR H n i leaf ps).2 = false) : Tre.provesR H root n i leaf ps = false := by
  unfold Tre.wayR at h
  by_cases hf : Tre.fits n i ps = true
  · rw [if_pos hf] at h; cases h
  · unfold Tre.provesR
    rw [Bool.not_eq_true] at hf
    rw [hf]; rfl
theorem wayR_size (H : ByteArray → ByteArray) (hH : ∀ s, (H s).size = 32) (n i : Int) (leaf : ByteArray) (ps : List ByteArray) (hl : leaf.size ≤ 1073741824) : ∀ s ∈ (Tre.wayR H n i leaf ps).1, s.size ≤ 1073741825 := by
  intro s hs
  by_cases h : (Tre.wayR H n i leaf ps).2 = true
  · obtain ⟨_, _, h3, h4, h5⟩ := wayR_last H n i leaf ps h
    have e : (Tre.wayR H n i leaf ps).1 = wayP H (Tre.leafB leaf) (Tre.sidesB n.toNat i.toNat) ps (Tre.sidesB n.toNat i.toNat).length := by
      unfold Tre.wayR wayP
      rw [if_pos h3, List.take_length, h4, List.take_length]
    rw [e] at hs
    refine way_sizes H hH (Tre.leafB leaf) _ ps h4 1073741825 (by rw [Tre.leafB_size]; omega) (by omega) _ (Nat.le_refl _) (fun p hp => h5 p (List.mem_of_mem_take hp)) s hs
  · have : (Tre.wayR H n i leaf ps).1 = [] := by
      unfold Tre.wayR at *
      by_cases hf : Tre.fits n i ps = true
      · rw [if_pos hf] at h; exact absurd rfl h
      · rw [if_neg hf]
    rw [this] at hs; cases hs

set_option maxRecDepth 100000 in
set_option maxHeartbeats 2000000 in
theorem proves_any {H : ByteArray → ByteArray} (hS : SumLaw H) (root : ByteArray) (n i : Int) (hn : n ≤ 9223372036854775807) (leaf : ByteArray) (hleaf : leaf.size ≤ 1073741824) (ps : List ByteArray) (ap : Option Addr) (cap : Nat) (w : World)
    (hf : StrsFit ps cap) (hc : StrsAt w ap ps) :
    Calls Try.prog 18 #[.string root, .int .i64 n, .int .i64 i, .string leaf, .slice ap ps.length cap] w fun e w' => e = .returned (.bool (Tre.provesR H root n i leaf ps)) ∧ Below w.heap.size w w' := by
  have CW := Lib.hid (way_any hS n i hn leaf hleaf ps ap cap w hf hc)
  have HS1 := Lib.hid (wayR_size H hS.1 n i leaf ps hleaf)
  have hm : (ps.length : Int) ≤ 9223372036854775807 := by have h1 := hf.1; have h2 := hf.2.1; unfold maxLen at h2; omega
  generalize hm0 : ps.length = m at *
  clear hf hc hleaf
  by_cases hok : (Tre.wayR H n i leaf ps).2 = true
  · obtain ⟨e1, e2, e3, e4, e5⟩ := wayR_last H n i leaf ps hok
    have HP : Hid (Tre.provesR H root n i leaf ps = decide (H (Tre.topL H (Tre.leafB leaf) (Tre.sidesB n.toNat i.toNat) ps) = root)) := by
      show _ = _
      unfold Tre.provesR
      rw [e3]; rfl
    rw [HP.out]
    generalize Tre.topL H (Tre.leafB leaf) (Tre.sidesB n.toNat i.toNat) ps = t at *
    rw [hok] at CW
    generalize (Tre.wayR H n i leaf ps).1 = l at *
    rw [hm0] at e1 e2
    have HE1 := Lib.hid e1
    have HE2 := Lib.hid e2
    have hm40 : (m : Int) ≤ 150000000000000 := by
      have h1 := Tre.sides_le 63 n.toNat i.toNat (by omega) (by omega)
      omega
    have CSU := Lib.hid (fun (ht : t.size ≤ 150000000000000) ao w h => sum_one hS t ht ao w h)
    have HT : Hid (t.size ≤ 1073741825) := HS1.out t (by rw [← e2]; simp [List.getD, e1])
    clear e1 e2 e3 e4 e5 hm0 hok
    go_enter Try.func18, Try.ntmps18
    go_wp2_with fail
    refine CW.out.mono ?_
    rintro e w1 ho
    obtain ⟨ao, c, rfl, hat, hfi, hb1⟩ := ho.strs (fun s hs => by have := HS1.out s hs; unfold maxLen; omega)
    have HB1 := Lib.hid hb1
    obtain ⟨b, off, rfl, hbP, hcP⟩ := hat m (by rw [HE1.out]; omega)
    rw [HE2.out] at hcP
    rw [HE1.out]
    clear ho hat hfi hb1 CW
    go_wp2_with fail
    refine (CSU.out (by have := HT.out; omega) _ _ (strs_new _ _ _ _ rfl _ rfl)).mono ?_
    rintro e w2 ⟨rfl, hb2⟩
    go_wp2_with fail
    go_ret
    refine ⟨?_, HB1.out.trans (((Below.refl _ _).alloc (Nat.le_refl _) _).trans (hb2.mono (by simp)) |>.mono HB1.out.size)⟩
    rw [← bytes_beq]; rfl
  · rw [Bool.not_eq_true] at hok
    have HP := Lib.hid (wayR_false H root n i leaf ps hok)
    rw [HP.out]
    rw [hok] at CW
    clear hok hm0
    go_enter Try.func18, Try.ntmps18
    go_wp2_with fail
    refine CW.out.mono ?_
    rintro e w1 ho
    obtain ⟨ao, c, rfl, hat, hfi, hb1⟩ := ho.strs (fun s hs => by have := HS1.out s hs; unfold maxLen; omega)
    have HB1 := Lib.hid hb1
    clear ho hat hfi hb1 CW
    go_wp2_with fail
    go_ret
    exact ⟨rfl, HB1.out⟩
end Go.Proofs.Ytbajgpbekanodaa
