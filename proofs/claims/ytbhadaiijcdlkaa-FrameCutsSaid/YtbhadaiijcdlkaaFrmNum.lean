/- The walks over frame.sum and the document's four and One. Conditions: the text is at most 2^47 bytes. -/
import Derived.Test.YtbhadaiijcdlkaaCrcLaws
import Derived.Test.YtbhadaiijcdlkaaOctText
import Derived.Test.YtbhadaiijcdlkaaFrmMath
namespace Go.Proofs.Ytbhadaiijcdlkaa
open Go.RowKit Frm

theorem fits_one (t : ByteArray) (h : t.size ≤ maxLen) : StrsFit [t] 1 := ⟨by simp, by simp [maxLen], by simpa using h⟩

theorem bytes_four (w : World) (x0 x1 x2 x3 : Int) (b0 b1 b2 b3 : UInt8) (h0 : x0 = (b0.toNat : Int)) (h1 : x1 = (b1.toNat : Int)) (h2 : x2 = (b2.toNat : Int)) (h3 : x3 = (b3.toNat : Int)) :
    BytesIn (w.alloc (.cells #[.int .u8 x0, .int .u8 x1, .int .u8 x2, .int .u8 x3] 5)) w.heap.size [b0, b1, b2, b3] := by
  subst h0 h1 h2 h3
  intro j hj
  rw [World.cell?_alloc_new]
  match j, hj with
  | 0, _ => rfl
  | 1, _ => rfl
  | 2, _ => rfl
  | 3, _ => rfl

theorem four_back (v : Nat) (hv : v < 4294967296) (w : World) (g : Nat) (hg : g = w.heap.size) :
    (convert 42 9 (.slice (some ⟨g, 0, none⟩) 4 4)).run Try.prog (w.alloc (.cells #[.int .u8 ((v : Int) / 16777216), .int .u8 ((v : Int) / 65536 % 256), .int .u8 ((v : Int) / 256 % 256), .int .u8 ((v : Int) % 256)] 5)) =
      .ok (.string (fourB v)) (w.alloc (.cells #[.int .u8 ((v : Int) / 16777216), .int .u8 ((v : Int) / 65536 % 256), .int .u8 ((v : Int) / 256 % 256), .int .u8 ((v : Int) % 256)] 5)) := by
  subst hg
  refine back_in _ _ 4 4 (Oct.be 4 v) ?_ rfl
  have e : Oct.be 4 v = [UInt8.ofNat (v / 16777216), UInt8.ofNat (v / 65536), UInt8.ofNat (v / 256), UInt8.ofNat (v / 1)] := rfl
  rw [e]
  refine bytes_four w _ _ _ _ _ _ _ _ ?_ ?_ ?_ ?_ <;> rw [UInt8.toNat_ofNat'] <;> omega

set_option maxRecDepth 100000 in
set_option maxHeartbeats 400000 in
theorem frameSum_any (t : ByteArray) (ht : t.size ≤ maxLen) (w : World) :
    Calls Try.prog 20 #[.string t] w fun e w' => e = .returned (.string (sumB t)) ∧ Below w.heap.size w w' := by
  have C1 : Hid (∀ w ao, StrsAt w ao [t] → Calls Try.prog 28 #[.slice ao 1 1] w fun e w' => e = .returned (.int .u32 (Crc.sumL [t])) ∧ w = w') := fun w ao h => sum_at ao 1 1 [t] w rfl (fits_one t ht) h
  have hv := Crc.sumL_lt [t]
  unfold sumB
  generalize Crc.sumL [t] = v at *
  have hv2 : (v : Int) < 4294967296 := by omega
  have hback := four_back v hv (w.alloc (.cells #[.string t] 9)) (w.heap.size + 1) (by simp)
  clear hv ht
  go_enter Try.func20, Try.ntmps20
  go_wp2_with fail
  refine (C1.out _ _ (strs_new _ _ _ _ rfl _ rfl)).mono ?_
  rintro e w1 ⟨rfl, rfl⟩
  go_wp2_with fail
  go_ret
  exact ⟨rfl, ((Below.refl _ _).alloc (Nat.le_refl _) _).alloc (by simp) _⟩

set_option maxRecDepth 100000 in
set_option maxHeartbeats 400000 in
theorem four_any (v : Nat) (hv : v < 4294967296) (w : World) :
    Calls Try.prog 30 #[.int .u32 (v : Int)] w fun e w' => e = .returned (.string (fourB v)) ∧ Below w.heap.size w w' := by
  have hv2 : (v : Int) < 4294967296 := by omega
  have hback := four_back v hv w w.heap.size rfl
  clear hv
  go_enter Try.func30, Try.ntmps30
  go_wp2_with fail
  go_ret
  exact ⟨rfl, (Below.refl _ _).alloc (Nat.le_refl _) _⟩

set_option maxRecDepth 100000 in
set_option maxHeartbeats 400000 in
theorem one_any (s : ByteArray) (hs : s.size ≤ 140737488355328) (w : World) :
    Calls Try.prog 22 #[.string s] w fun e w' => e = .returned (.string (frB s)) ∧ Below w.heap.size w w' := by
  have hsz : (Oct.textB s).size ≤ 9 + s.size := by unfold Oct.textB; rw [ByteArray.size_append]; have := Oct.numB_le s.size; omega
  have C1 := Lib.hid (refText_any s hs)
  unfold frB sumB
  generalize Oct.textB s = t at *
  have C2 : Hid (∀ w ao, StrsAt w ao [t] → Calls Try.prog 31 #[.slice ao 1 1] w fun e w' => e = .returned (.int .u32 (Crc.sumL [t])) ∧ w = w') := fun w ao h => refSum_any ao 1 [t] w (fits_one t (by unfold maxLen; omega)) h
  have C3 := Lib.hid (four_any (Crc.sumL [t]) (Crc.sumL_lt [t]))
  have h4 := fourB_size (Crc.sumL [t])
  generalize fourB (Crc.sumL [t]) = f at *
  generalize Crc.sumL [t] = v at *
  have hcat : (t.size : Int) + (f.size : Int) ≤ 9223372036854775807 := by omega
  clear hs hsz h4
  go_enter Try.func22, Try.ntmps22
  go_wp2_with fail
  refine (C1.out _).mono ?_
  rintro e w1 ⟨rfl, hb1⟩
  go_wp2_with fail
  refine (C2.out _ _ (strs_new _ _ _ _ rfl _ rfl)).mono ?_
  rintro e w2 ⟨rfl, rfl⟩
  go_wp2_with fail
  refine (C3.out _).mono ?_
  rintro e w3 ⟨rfl, hb3⟩
  go_wp2_with fail
  go_ret
  exact ⟨rfl, (hb1.alloc hb1.size _).trans (hb3.mono (by have := hb1.size; simp; omega))⟩
end Go.Proofs.Ytbhadaiijcdlkaa
