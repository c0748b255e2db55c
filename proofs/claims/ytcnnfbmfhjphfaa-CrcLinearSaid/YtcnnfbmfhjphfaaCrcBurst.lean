/- The walk over the law CrcBursts. -/
import Derived.Test.YtcnnfbmfhjphfaaCrcParts
import Derived.BigRegion
import Derived.BigQuiet
import Derived.Laws.IdiomStrings
import Derived.WideShapes
namespace Go.Proofs.Ytcnnfbmfhjphfaa
open Go.RowKit

/-- A row of bytes of the call's own: block g, from B on, not frozen. -/
def BytesAt (w : World) (B g : Nat) (l : List UInt8) : Prop :=
  B ≤ g ∧ g < w.heap.size ∧ ∀ j, (h : j < l.length) → w.cell? ⟨g, j, none⟩ = some (.int .u8 (l[j].toNat : Int)) ∧ w.frozen? ⟨g, j, none⟩ = false

theorem bytesAt_new (s : ByteArray) (t : TypeId) (cap : Nat) (fr : Nat) (w : World) :
    BytesAt ((w.alloc (.cells (bytesRow s cap) t ((bytesRow s cap).size, fr))).drew) w.heap.size w.heap.size s.data.toList := by
  refine ⟨Nat.le_refl _, by simp, fun j hj => ?_⟩
  have hj' : j < s.data.size := by simpa using hj
  refine ⟨?_, ?_⟩
  · rw [World.cell?_drew, World.cell?_alloc_mark, bytesRow_at s cap j hj']; rfl
  · rw [World.frozen?_drew, World.frozen?_alloc_mark]
    have : j < (bytesRow s cap).size := by unfold bytesRow; rw [Array.size_append, Array.size_map]; omega
    have e : decide ((bytesRow s cap).size ≤ j) = false := by simp; omega
    rw [e]; rfl

theorem BytesAt.drew {w : World} {B g : Nat} {l : List UInt8} (h : BytesAt w B g l) : BytesAt w.drew B g l := h
theorem BytesAt.stored {w : World} {B g : Nat} {l : List UInt8} (h : BytesAt w B g l) (j : Nat) (hj : j < l.length) (b : UInt8) (v : Value) (hv : v = .int .u8 (b.toNat : Int)) :
    BytesAt (w.setCell ⟨g, j, none⟩ v) B g (l.set j b) := by
  subst hv
  refine ⟨h.1, by rw [World.size_setCell]; exact h.2.1, fun i hi => ?_⟩
  have hi' : i < l.length := by simpa using hi
  refine ⟨?_, by rw [World.frozen?_setCell]; exact (h.2.2 i hi').2⟩
  by_cases e : j = i
  · subst e
    rw [World.cell?_setCell_same w _ _ (h.2.2 j hj).1]
    simp
  · rw [World.cell?_setCell_other w _ _ _ (by simp)]
    rw [List.getElem_set_ne e]
    exact (h.2.2 i hi').1

set_option maxHeartbeats 1000000 in
theorem crcBursts_no (s : ByteArray) (pos : Int) (dif : Nat) (w : World) (hs : s.size ≤ 140737488351232) (hd : dif < 4294967296)
    (hno : 100000 < (s.size : Int) ∨ dif = 0 ∨ pos < 0) :
    Calls Try.prog 6 #[.string s, .int .i64 pos, .int .u32 dif] w fun e w' => e = .returned (.bool true) ∧ Below w.heap.size w w' := by
  by_cases h1 : 100000 < (s.size : Int)
  · clear hno
    go_enter Try.func6, Try.ntmps6
    go_wp2_with (go_at_call 18; refine (awake_any _).mono ?_; rintro e w' ⟨rfl, hbel⟩)
    go_ret
    exact ⟨rfl, ‹_›⟩
  · by_cases h2 : dif = 0
    · clear hno
      subst h2
      go_enter Try.func6, Try.ntmps6
      go_wp2_with (go_at_call 18; refine (awake_any _).mono ?_; rintro e w' ⟨rfl, hbel⟩)
      go_ret
      exact ⟨rfl, ‹_›⟩
    · have h3 : pos < 0 := by rcases hno with h | h | h <;> first | (exfalso; omega) | exact h
      clear hno
      have h2' : ((dif : Int) == 0) = false := by simp; omega
      clear h2
      go_enter Try.func6, Try.ntmps6
      go_wp2_with (go_at_call 18; refine (awake_any _).mono ?_; rintro e w' ⟨rfl, hbel⟩)
      go_ret
      exact ⟨rfl, ‹_›⟩

set_option maxHeartbeats 1000000 in
theorem crcBursts_yes (s : ByteArray) (pos dif : Nat) (w : World) (hs : (s.size : Int) ≤ 100000) (hd : dif < 4294967296) (h0 : dif ≠ 0) (hp : pos ≤ 9223372036854775807) :
    Calls Try.prog 6 #[.string s, .int .i64 pos, .int .u32 dif] w fun e w' => e = .returned (.bool true) ∧ Below w.heap.size w w' := by
  have h2' : ((dif : Int) == 0) = false := by simp; omega
  clear h0
  have kc := fun (w : World) => run_bytes_of_string (P := Try.prog) w 9 30 5 s Try.underlying9 Try.underlying30 Try.underlying5
  go_enter Try.func6, Try.ntmps6
  go_wp2_with fail
  generalize hcap : grownCap w s.size 0 5 = cap
  have HCAP := Lib.hid hcap
  clear hcap
  go_loopw [8, 9] (fun m i wr => ∃ j : Nat, j ≤ 32 ∧ i = .int .i64 j ∧ m = .bool (Crc.met s.size pos dif j) ∧
      BytesAt wr w.heap.size w.heap.size (Crc.flips s.data.toList pos dif j) ∧ Below w.heap.size w wr) (fun _ i _ => 32 - (intOf i).toNat)
  case atStart => exact ⟨0, by omega, rfl, rfl, bytesAt_new _ _ _ _ _, ((Below.refl _ _).drew).alloc (Nat.le_refl _) _⟩
  case round =>
    obtain ⟨j, hj, rfl, rfl, hby, hbel⟩ := hrel
    have hbit := Crc.dif_bit hd j
    have hlen : (Crc.flips s.data.toList pos dif j).length = s.size := by rw [Crc.flips_length]; simp
    have hl0 : s.data.toList.length = s.size := by simp
    have HLEN := Lib.hid hlen
    have HL0 := Lib.hid hl0
    have HBY := Lib.hid hby
    have HBIT := Lib.hid hbit
    clear hlen hl0 hby hbit
    by_cases hlt : j < 32
    · by_cases ht : dif / 2 ^ j % 2 = 1
      · have e1 : bits BinOp.and IntKind.u32 ((dif : Int) / 2 ^ j) 1 = 1 := by rw [HBIT.out, ht]; rfl
        by_cases h8 : pos / 8 < s.size
        · by_cases h9 : (pos % 8 + j) / 8 < s.size - pos / 8
          · have hturn : Crc.turned s.size pos dif j = true := by unfold Crc.turned; simp [ht]; omega
            have g8 : (pos : Int) / 8 < (s.size : Int) := by omega
            have g9 : ((pos : Int) % 8 + (j : Int)) / 8 < (s.size : Int) - (pos : Int) / 8 := by omega
            have hidx : pos / 8 + (pos % 8 + j) / 8 < (Crc.flips s.data.toList pos dif j).length := by rw [HLEN.out]; omega
            obtain ⟨hc, hfr⟩ := HBY.out.2.2 _ hidx
            obtain ⟨x, hx⟩ : ∃ x, x = (Crc.flips s.data.toList pos dif j)[pos / 8 + (pos % 8 + j) / 8] := ⟨_, rfl⟩
            rw [← hx] at hc
            have HX := Lib.hid hx
            have HT := Lib.hid hturn
            have HIDX := Lib.hid hidx
            clear hx ht hturn h8 h9
            go_wp2_with fail
            go_region
            go_wp2_with fail
            go_roundw
            case rel =>
              refine ⟨j + 1, by omega, by go_num, by rw [Crc.met_yes HT.out], ?_, (hbel.setCell (Nat.le_refl _) _).drew⟩
              rw [Crc.flips_yes HL0.out HT.out x HIDX.out HX.out]
              exact (HBY.out.stored _ HIDX.out _ _ (by rw [Crc.turn_bits x _ (by omega)])).drew
            case measure => simp [intOf]; omega
          · have hturn : Crc.turned s.size pos dif j = false := by unfold Crc.turned; simp; omega
            have g8 : (pos : Int) / 8 < (s.size : Int) := by omega
            have g9 : (s.size : Int) - (pos : Int) / 8 ≤ ((pos : Int) % 8 + (j : Int)) / 8 := by omega
            have HT := Lib.hid hturn
            clear ht hturn h8 h9
            go_wp2_with fail
            go_roundw
            case rel => exact ⟨j + 1, by omega, by go_num, by rw [Crc.met_no HT.out], by rw [Crc.flips_no HL0.out HT.out]; exact HBY.out, hbel⟩
            case measure => simp [intOf]; omega
        · have hturn : Crc.turned s.size pos dif j = false := by unfold Crc.turned; simp; omega
          have g8 : (s.size : Int) ≤ (pos : Int) / 8 := by omega
          have HT := Lib.hid hturn
          clear ht hturn h8
          go_wp2_with fail
          go_roundw
          case rel => exact ⟨j + 1, by omega, by go_num, by rw [Crc.met_no HT.out], by rw [Crc.flips_no HL0.out HT.out]; exact HBY.out, hbel⟩
          case measure => simp [intOf]; omega
      · have e1 : bits BinOp.and IntKind.u32 ((dif : Int) / 2 ^ j) 1 = 0 := by rw [HBIT.out, show dif / 2 ^ j % 2 = 0 by omega]; rfl
        have hturn : Crc.turned s.size pos dif j = false := by unfold Crc.turned; simp [ht]
        have HT := Lib.hid hturn
        clear ht hturn
        go_wp2_with fail
        go_roundw
        case rel => exact ⟨j + 1, by omega, by go_num, by rw [Crc.met_no HT.out], by rw [Crc.flips_no HL0.out HT.out]; exact HBY.out, hbel⟩
        case measure => simp [intOf]; omega
    · obtain rfl : j = 32 := by omega
      have hback := run_convert_bytes_back (P := Try.prog) wr 30 9 5 ⟨w.heap.size, 0, none⟩ cap (Crc.flips s.data.toList pos dif 32) Try.underlying30 Try.underlying5 Try.underlying9
        (fun i hi => by rw [Go.WideShapes.add_plain, Nat.zero_add]; exact (HBY.out.2.2 i hi).1)
      rw [HLEN.out] at hback
      have f1 : StrsFit [⟨(Crc.flips s.data.toList pos dif 32).toArray⟩] 1 := fit_one (by show (Crc.flips s.data.toList pos dif 32).toArray.size ≤ _; rw [List.size_toArray, HLEN.out]; unfold maxLen; omega)
      have f2 : StrsFit [s] 1 := fit_one (by unfold maxLen; omega)
      have hsum : ((((Crc.sumL [⟨(Crc.flips s.data.toList pos dif 32).toArray⟩] : Nat) : Int) != ((Crc.sumL [s] : Nat) : Int)) == Crc.met s.size pos dif 32) = true := by
        have h1 := Crc.burst_sum s.data.toList pos dif
        rw [HL0.out] at h1
        have h2 : Crc.sumL [⟨(Crc.flips s.data.toList pos dif 32).toArray⟩] = Crc.more 0 (Crc.flips s.data.toList pos dif 32) := rfl
        have h3 : Crc.sumL [s] = Crc.more 0 s.data.toList := rfl
        rw [h2, h3]
        cases hm : Crc.met s.size pos dif 32 with
        | false => rw [h1.2 hm]; simp
        | true =>
          have : ¬ Crc.more 0 (Crc.flips s.data.toList pos dif 32) = Crc.more 0 s.data.toList := fun e => by rw [h1.1 e] at hm; cases hm
          simp; omega
      go_wp2_with fail
      refine (sum_at _ 1 1 [⟨(Crc.flips s.data.toList pos dif 32).toArray⟩] _ rfl f1 (strs_new _ _ _ _ (by simp) _ rfl)).mono ?_
      rintro e w' ⟨rfl, rfl⟩
      go_wp2_with fail
      refine (sum_at _ 1 1 [s] _ rfl f2 (strs_new _ _ _ _ (by simp) _ rfl)).mono ?_
      rintro e w' ⟨rfl, rfl⟩
      go_wp2_with fail
      refine (awake_any _).mono ?_
      rintro e w' ⟨rfl, hbel2⟩
      go_wp2_with fail
      go_ret
      have hsz := hbel.size
      exact ⟨rfl, (((hbel.alloc hsz _).alloc (by simp; omega) _)).trans (hbel2.mono (by simp; omega))⟩

theorem crcBursts_walk (s : ByteArray) (pos : Int) (dif : Nat) (w : World) (hs : s.size ≤ 140737488351232) (hp : -9223372036854775808 ≤ pos ∧ pos ≤ 9223372036854775807) (hd : dif < 4294967296) :
    Calls Try.prog 6 #[.string s, .int .i64 pos, .int .u32 dif] w fun e w' => e = .returned (.bool true) ∧ Below w.heap.size w w' := by
  by_cases h1 : 100000 < (s.size : Int)
  · exact crcBursts_no s pos dif w hs hd (.inl h1)
  · by_cases h2 : dif = 0
    · exact crcBursts_no s pos dif w hs hd (.inr (.inl h2))
    · by_cases h3 : pos < 0
      · exact crcBursts_no s pos dif w hs hd (.inr (.inr h3))
      · obtain ⟨n, rfl⟩ := Int.eq_ofNat_of_zero_le (show 0 ≤ pos by omega)
        exact crcBursts_yes s n dif w (by omega) hd h2 (by omega)
end Go.Proofs.Ytcnnfbmfhjphfaa
