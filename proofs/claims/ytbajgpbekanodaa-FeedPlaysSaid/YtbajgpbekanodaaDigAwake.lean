/- The walks over pandectlaw38's awake and small. -/
import Derived.Test.YtbajgpbekanodaaDigUnhex
import Derived.Test.YtbajgpbekanodaaDigEval
namespace Go.Proofs.Ytbajgpbekanodaa
open Go.RowKit

theorem shaB_bytes (l : List UInt8) : shaB (bytesB l) = bytesB (Sha.sum l) := rfl
theorem leafB_bytes (l : List UInt8) : Tre.leafB (bytesB l) = bytesB (0 :: l) := by
  apply ByteArray.ext
  apply Array.ext'
  simp [Tre.leafB, bytesB]
theorem nodeB_bytes (a b : List UInt8) : Tre.nodeB (bytesB a) (bytesB b) = bytesB (1 :: (a ++ b)) := by
  apply ByteArray.ext
  apply Array.ext'
  simp [Tre.nodeB, bytesB]
theorem bytesB_inj {a b : List UInt8} (h : bytesB a = bytesB b) : a = b := by
  have := congrArg (fun s => s.data.toList) h
  exact this
/-- The proof of a leaf proves it. -/
theorem proves_own (H : ByteArray → ByteArray) (hH : ∀ s, (H s).size = 32) (l : List ByteArray) (hl : l.length < 2 ^ 63) (i : Nat) (h : i < l.length) : Tre.provesR H (Tre.rootB H l) l.length i l[i] (Tre.proofB H i l) = true := by
  have h1 := Tre.proof_length H l.length i l (Nat.le_refl _) (by omega) h
  have h2 := Tre.proof_sizes H hH l.length i l (Nat.le_refl _) (by omega)
  have h3 := Tre.proof_top H l.length i l (Nat.le_refl _) (by omega) h
  unfold Tre.provesR Tre.fits
  rw [Int.toNat_natCast, Int.toNat_natCast, h3]
  simp only [Bool.and_eq_true, decide_eq_true_eq, List.all_eq_true]
  exact ⟨⟨⟨⟨by omega, by omega⟩, h1.symm⟩, h2⟩, trivial⟩
def xyz : List ByteArray := [⟨#[120]⟩, ⟨#[121]⟩, ⟨#[122]⟩]
theorem xyz_root (H : ByteArray → ByteArray) : Tre.rootB H xyz = H (Tre.nodeB (H (Tre.nodeB (H (Tre.leafB ⟨#[120]⟩)) (H (Tre.leafB ⟨#[121]⟩)))) (H (Tre.leafB ⟨#[122]⟩))) := by kernel_rfl
theorem xyz_proof (H : ByteArray → ByteArray) : Tre.proofB H 1 xyz = [H (Tre.leafB ⟨#[120]⟩), H (Tre.leafB ⟨#[122]⟩)] := by kernel_rfl
theorem xyz_top (H : ByteArray → ByteArray) (t p q : ByteArray) : Tre.topL H t (Tre.sidesB 3 1) [p, q] = Tre.nodeB (H (Tre.nodeB p (H t))) q := by kernel_rfl
set_option maxRecDepth 100000 in
theorem xyz_no : Tre.provesR shaB (Tre.rootB shaB xyz) 3 1 ⟨#[122]⟩ (Tre.proofB shaB 1 xyz) = false := by
  have ex : (⟨#[120]⟩ : ByteArray) = bytesB [120] := rfl
  have ey : (⟨#[121]⟩ : ByteArray) = bytesB [121] := rfl
  have ez : (⟨#[122]⟩ : ByteArray) = bytesB [122] := rfl
  unfold Tre.provesR
  rw [decide_eq_false, Bool.and_false]
  intro h
  rw [xyz_root, xyz_proof, show Tre.sidesB (3 : Int).toNat (1 : Int).toNat = Tre.sidesB 3 1 from rfl, xyz_top, ex, ey, ez, leafB_bytes, leafB_bytes, leafB_bytes, shaB_bytes, shaB_bytes, shaB_bytes, Sha.sum_lx, Sha.sum_ly, Sha.sum_lz, nodeB_bytes, nodeB_bytes, shaB_bytes, shaB_bytes] at h
  simp only [List.cons_append, List.nil_append] at h
  rw [Sha.sum_nxy, Sha.sum_nxz, nodeB_bytes, nodeB_bytes, shaB_bytes, shaB_bytes] at h
  simp only [List.cons_append, List.nil_append] at h
  rw [Sha.sum_ry, Sha.sum_rz] at h
  exact absurd (bytesB_inj h) (by decide)
theorem xyz_yes : Tre.provesR shaB (Tre.rootB shaB xyz) 3 1 ⟨#[121]⟩ (Tre.proofB shaB 1 xyz) = true := proves_own shaB shaB_size xyz (by decide) 1 (by decide)
theorem xyz_proofR (H : ByteArray → ByteArray) : Tre.proofR H 1 xyz = (Tre.proofB H 1 xyz, 0) := rfl
set_option maxRecDepth 100000 in
theorem abc_hex : ((hexB (shaB (jnB [⟨#[97]⟩, ⟨#[98, 99]⟩]))).toList == [98, 97, 55, 56, 49, 54, 98, 102, 56, 102, 48, 49, 99, 102, 101, 97, 52, 49, 52, 49, 52, 48, 100, 101, 53, 100, 97, 101, 50, 50, 50, 51, 98, 48, 48, 51, 54, 49, 97, 51, 57, 54, 49, 55, 55, 97, 57, 99, 98, 52, 49, 48, 102, 102, 54, 49, 102, 50, 48, 48, 49, 53, 97, 100]) = true := by
  have e : jnB [⟨#[97]⟩, ⟨#[98, 99]⟩] = bytesB [97, 98, 99] := by decide
  rw [e, shaB_bytes, Sha.sum_abc, ByteArray.toList_eq]
  decide +kernel
theorem hexff : unhexB ⟨#[48, 48, 102, 102]⟩ = (⟨#[0, 255]⟩, 0) := by decide +kernel

set_option maxRecDepth 100000 in
set_option maxHeartbeats 4000000 in
theorem awake_gen {H : ByteArray → ByteArray} (hS : SumLaw H) (h1 : ((hexB (H (jnB [⟨#[97]⟩, ⟨#[98, 99]⟩]))).toList == [98, 97, 55, 56, 49, 54, 98, 102, 56, 102, 48, 49, 99, 102, 101, 97, 52, 49, 52, 49, 52, 48, 100, 101, 53, 100, 97, 101, 50, 50, 50, 51, 98, 48, 48, 51, 54, 49, 97, 51, 57, 54, 49, 55, 55, 97, 57, 99, 98, 52, 49, 48, 102, 102, 54, 49, 102, 50, 48, 48, 49, 53, 97, 100]) = true)
    (h2 : Tre.provesR H (Tre.rootB H xyz) 3 1 ⟨#[121]⟩ (Tre.proofB H 1 xyz) = true) (h3 : Tre.provesR H (Tre.rootB H xyz) 3 1 ⟨#[122]⟩ (Tre.proofB H 1 xyz) = false) (w : World) :
    Calls Try.prog 16 #[] w fun e w' => e = .returned (.bool true) ∧ Below w.heap.size w w' := by
  have fx : StrsFit xyz 3 := ⟨by decide, by decide, by intro s hs; have : s.size ≤ 1 := (by decide : ∀ s ∈ xyz, s.size ≤ 1) s hs; unfold maxLen; omega⟩
  have ox : LeafOk xyz := by intro s hs; have : s.size ≤ 1 := (by decide : ∀ s ∈ xyz, s.size ≤ 1) s hs; omega
  have hx3 : xyz.length = 3 := rfl
  have CP := Lib.hid (fun ao w hc => proof_any hS 1 xyz ao 3 3 w rfl fx hc ox)
  rw [xyz_proofR] at CP
  have CR := Lib.hid (fun ao w hc => root_any hS 3 xyz ao 3 3 w (Nat.le_refl _) rfl fx hc ox)
  have CU := Lib.hid (fun w => unhex_any ⟨#[48, 48, 102, 102]⟩ (by decide) w)
  rw [hexff] at CU
  have hu : ((⟨#[0, 255]⟩ : ByteArray).toList == [0, 255]) = true := by decide +kernel
  have CS := Lib.hid (fun ao w hc => hS.2 ao 2 2 [⟨#[97]⟩, ⟨#[98, 99]⟩] w rfl ⟨by decide, by decide, by intro s hs; have : s.size ≤ 2 := (by decide : ∀ s ∈ ([⟨#[97]⟩, ⟨#[98, 99]⟩] : List ByteArray), s.size ≤ 2) s hs; unfold maxLen; omega⟩ hc (by decide) (Or.inr (by decide)))
  have CH := Lib.hid (fun w => hex_any (H (jnB [⟨#[97]⟩, ⟨#[98, 99]⟩])) (by rw [hS.1]; decide) w)
  have hps : ∀ s ∈ Tre.proofB H 1 xyz, s.size ≤ maxLen := fun s hs => by
    have := Tre.proof_sizes H hS.1 3 1 xyz (by decide) (by decide) s hs
    unfold maxLen; omega
  have HPS := Lib.hid hps
  have CY := Lib.hid (fun ao cap w hf hc => proves_any hS (Tre.rootB H xyz) 3 1 (by decide) ⟨#[121]⟩ (by decide) (Tre.proofB H 1 xyz) ao cap w hf hc)
  have CZ := Lib.hid (fun ao cap w hf hc => proves_any hS (Tre.rootB H xyz) 3 1 (by decide) ⟨#[122]⟩ (by decide) (Tre.proofB H 1 xyz) ao cap w hf hc)
  rw [h2] at CY
  rw [h3] at CZ
  generalize hexB (H (jnB [⟨#[97]⟩, ⟨#[98, 99]⟩])) = hx at *
  generalize H (jnB [⟨#[97]⟩, ⟨#[98, 99]⟩]) = sx at *
  generalize Tre.rootB H xyz = rt at *
  generalize Tre.proofB H 1 xyz = p at *
  generalize (⟨#[0, 255]⟩ : ByteArray) = uu at *
  clear h2 h3 hps fx ox
  go_enter Try.func16, Try.ntmps16
  go_wp2_with fail
  refine (CP.out _ _ (strs_new _ _ _ _ rfl _ rfl)).mono ?_
  rintro e w1 ho
  obtain ⟨ao, c, rfl, hat, hfi, hb1⟩ := ho.strs HPS.out
  have HB1 : Hid (Below w.heap.size w w1) := ((Below.refl _ _).alloc (Nat.le_refl _) _).trans (hb1.mono (by simp))
  have HAT := Lib.hid hat
  have HFI := Lib.hid hfi
  clear ho hat hfi hb1 CP HPS
  go_wp2_with fail
  refine (CR.out _ _ (strs_new _ _ _ _ rfl _ rfl)).mono ?_
  rintro e w2 ⟨rfl, hb2⟩
  have HB2 : Hid (Below w1.heap.size w1 w2) := ((Below.refl _ _).alloc (Nat.le_refl _) _).trans (hb2.mono (by simp))
  clear hb2 CR
  go_wp2_with fail
  refine (CU.out _).mono ?_
  rintro e w3 ⟨rfl, hb3⟩
  have HB3 : Hid (Below w1.heap.size w1 w3) := HB2.out.trans (hb3.mono HB2.out.size)
  clear hb3 CU HB2
  go_wp2_with fail
  refine (CS.out _ _ (strs_new _ _ _ _ rfl _ rfl)).mono ?_
  rintro e w4 ⟨rfl, hb4⟩
  have HB4 : Hid (Below w3.heap.size w3 w4) := ((Below.refl _ _).alloc (Nat.le_refl _) _).trans (hb4.mono (by simp))
  clear hb4 CS
  go_wp2_with fail
  refine (CH.out _).mono ?_
  rintro e w5 ⟨rfl, hb5⟩
  have HB5 : Hid (Below w1.heap.size w1 w5) := HB3.out.trans ((HB4.out.trans (hb5.mono HB4.out.size)).mono HB3.out.size)
  clear hb5 CH HB4 HB3
  go_wp2_with fail
  refine (CY.out _ _ _ HFI.out (HAT.out.kept HB5.out (Nat.le_refl _))).mono ?_
  rintro e w6 ⟨rfl, hb6⟩
  have HB6 : Hid (Below w1.heap.size w1 w6) := HB5.out.trans (hb6.mono HB5.out.size)
  clear hb6 CY HB5
  go_wp2_with fail
  refine (CZ.out _ _ _ HFI.out (HAT.out.kept HB6.out (Nat.le_refl _))).mono ?_
  rintro e w7 ⟨rfl, hb7⟩
  have HB7 : Hid (Below w1.heap.size w1 w7) := HB6.out.trans (hb7.mono HB6.out.size)
  clear hb7 CZ HB6
  go_wp2_with fail
  go_ret
  exact ⟨rfl, HB1.out.trans (HB7.out.mono HB1.out.size)⟩
theorem awake38_any (w : World) : Calls Try.prog 16 #[] w fun e w' => e = .returned (.bool true) ∧ Below w.heap.size w w' :=
  awake_gen sum_law abc_hex xyz_yes xyz_no w
end Go.Proofs.Ytbajgpbekanodaa
