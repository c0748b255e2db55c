/- The walk over the law CrcLinear. -/
import Derived.Test.YtcnnfbmfhjphfaaCrcBurst
import Derived.Test.YtcnnfbmfhjphfaaCrcMathC
import Derived.Deep.QuietTactic
import Derived.Test.YtcnnfbmfhjphfaaRegion
namespace Go.Proofs.Ytcnnfbmfhjphfaa
open Go.RowKit

theorem run_min4 (P : Program) (ts : Array TypeId) (t : TypeId) (x y z : Nat) (n : Nat) (hn : n = min (min (min x y) z) 50000) (w : World) :
    (Builtin.min_ ts t #[.int .i64 (x : Int), .int .i64 (y : Int), .int .i64 (z : Int), .int .i64 50000]).run P w = .ok (.int .i64 (n : Int)) w := by
  simp [Builtin.min_, Builtin.min2]
  rw [hn]
  repeat' split
  all_goals omega

theorem cut_facts (a : ByteArray) (n : Nat) (h : (n : Int) ≤ (a.size : Int)) : (a.extract 0 n).size = n ∧ (a.extract 0 n).data.toList = a.data.toList.take n := by
  refine ⟨by rw [ByteArray.size_extract]; omega, ?_⟩
  rw [ByteArray.data_extract, Array.toList_extract, List.extract_eq_take_drop]; simp
theorem Below.drewN {B : Nat} {a w : World} (h : Below B a w) (n : Nat) : Below B a (w.drewN n) := ⟨h.os, h.tape, h.output, h.size, h.block⟩
theorem bytesAt_made {w w1 : World} {B g n t : Nat} {l : List UInt8} (h : w1.ownsRow B t 1 (.slice (some ⟨g, 0, none⟩) n n) n (madeCells #[.int .u8 0] n).toList)
    (_hg : w.grownBy w1 none) (hl : l = List.replicate n 0) : BytesAt w1 B g l := by
  subst hl
  have hlt := h.lt g rfl
  refine ⟨hlt.1, hlt.2, fun j hj => ?_⟩
  have hj' : j < n := by simpa using hj
  refine ⟨?_, h.frozenAt j⟩
  rw [h.cellAt j (by omega), toList_madeCells_one]
  simp [hj']
theorem back_at (w : World) (B g n cap : Nat) (l : List UInt8) (h : BytesAt w B g l) (hl : l.length = n) :
    (convert 30 9 (.slice (some ⟨g, 0, none⟩) n cap)).run Try.prog w = .ok (.string ⟨l.toArray⟩) w := by
  subst hl
  exact run_convert_bytes_back (P := Try.prog) w 30 9 5 ⟨g, 0, none⟩ cap l Try.underlying30 Try.underlying5 Try.underlying9
    (fun i hi => by rw [Go.WideShapes.add_plain, Nat.zero_add]; exact (h.2.2 i hi).1)
theorem BytesAt.below {w w' : World} {B g : Nat} {l : List UInt8} (h : BytesAt w B g l) (hb : Below w.heap.size w w') : BytesAt w' B g l := by
  have hs := hb.size
  exact ⟨h.1, by have := h.2.1; omega, fun j hj => ⟨(hb.cell (p := ⟨g, j, none⟩) h.2.1).trans (h.2.2 j hj).1, (hb.frozen (p := ⟨g, j, none⟩) h.2.1).trans (h.2.2 j hj).2⟩⟩
theorem strs_top (w : World) (x : ByteArray) (t : TypeId) : StrsAt (w.alloc (.cells #[.string x] t)) (some ⟨w.heap.size, 0, none⟩) [x] :=
  strs_new [x] t w _ rfl _ rfl
theorem xor32 {x y : Nat} (hx : x < 4294967296) (hy : y < 4294967296) : bits BinOp.xor IntKind.u32 (x : Int) (y : Int) = ((x ^^^ y : Nat) : Int) := u32_xor_nat x y hx hy
/-- What the operations of the last statement yield. -/
def linR (a1 b1 c1 d1 : ByteArray) (g k : Nat) : Nat → World → Value → Prop
  | 0, _, v => v = .string a1
  | 1, w, v => ∃ ao, v = .slice ao 1 1 ∧ StrsAt w ao [a1]
  | 2, _, v => v = .int .u32 ((Crc.sumL [a1] : Nat) : Int)
  | 3, _, v => v = .string b1
  | 4, w, v => ∃ ao, v = .slice ao 1 1 ∧ StrsAt w ao [b1]
  | 5, _, v => v = .int .u32 ((Crc.sumL [b1] : Nat) : Int)
  | 6, _, v => v = .int .u32 ((Crc.sumL [a1] ^^^ Crc.sumL [b1] : Nat) : Int)
  | 7, _, v => v = .string c1
  | 8, w, v => ∃ ao, v = .slice ao 1 1 ∧ StrsAt w ao [c1]
  | 9, _, v => v = .int .u32 ((Crc.sumL [c1] : Nat) : Int)
  | 10, _, v => v = .int .u32 ((Crc.sumL [a1] ^^^ Crc.sumL [b1] ^^^ Crc.sumL [c1] : Nat) : Int)
  | 11, _, v => v = .slice (some ⟨g, 0, none⟩) k k
  | 12, _, v => v = .string d1
  | 13, w, v => ∃ ao, v = .slice ao 1 1 ∧ StrsAt w ao [d1]
  | 14, _, v => v = .int .u32 ((Crc.sumL [d1] : Nat) : Int)
  | 15, _, v => v = .int .u32 ((Crc.sumL [a1] ^^^ Crc.sumL [b1] ^^^ Crc.sumL [c1] ^^^ Crc.sumL [d1] : Nat) : Int)
  | _, _, v => v = .bool true
theorem linR_below (a1 b1 c1 d1 : ByteArray) (g k : Nat) : ∀ i w w' v, Below w.heap.size w w' → linR a1 b1 c1 d1 g k i w v → linR a1 b1 c1 d1 g k i w' v
  | 0, _, _, _, _, h => h
  | 1, _, _, _, hb, ⟨ao, h1, h2⟩ => ⟨ao, h1, h2.below hb⟩
  | 2, _, _, _, _, h => h
  | 3, _, _, _, _, h => h
  | 4, _, _, _, hb, ⟨ao, h1, h2⟩ => ⟨ao, h1, h2.below hb⟩
  | 5, _, _, _, _, h => h
  | 6, _, _, _, _, h => h
  | 7, _, _, _, _, h => h
  | 8, _, _, _, hb, ⟨ao, h1, h2⟩ => ⟨ao, h1, h2.below hb⟩
  | 9, _, _, _, _, h => h
  | 10, _, _, _, _, h => h
  | 11, _, _, _, _, h => h
  | 12, _, _, _, _, h => h
  | 13, _, _, _, hb, ⟨ao, h1, h2⟩ => ⟨ao, h1, h2.below hb⟩
  | 14, _, _, _, _, h => h
  | 15, _, _, _, _, h => h
  | _ + 16, _, _, _, _, h => h
theorem infoByte : (Try.prog.info? 5).map (fun i => (i.zero, i.size, i.bytes)) = some (some (.int .u8 0), 1, 1) := by kernel_rfl

set_option maxHeartbeats 1000000 in
theorem crcLinear_walk (a b c : ByteArray) (w : World) (ha : a.size ≤ 140737488351232) (hb : b.size ≤ 140737488351232) (hc : c.size ≤ 140737488351232) :
    Calls Try.prog 7 #[.string a, .string b, .string c] w fun e w' => e = .returned (.bool true) ∧ Below w.heap.size w w' := by
  obtain ⟨n, hn⟩ : ∃ n, n = min (min (min a.size b.size) c.size) 50000 := ⟨_, rfl⟩
  have hmin := fun (ts : Array TypeId) (t : TypeId) (w : World) => run_min4 Try.prog ts t a.size b.size c.size n hn w
  have ha' : (n : Int) ≤ (a.size : Int) := by omega
  have hb' : (n : Int) ≤ (b.size : Int) := by omega
  have hc' : (n : Int) ≤ (c.size : Int) := by omega
  have hn' : (n : Int) ≤ 50000 := by omega
  clear hn
  obtain ⟨i0, hi, hz0, hz1, hz2⟩ := info_parts infoByte
  go_enter Try.func7, Try.ntmps7
  go_wp2_with fail
  go_quiet (fail)
  have hxa := Lib.hid (cut_facts a n ha')
  have hxb := Lib.hid (cut_facts b n hb')
  have hxc := Lib.hid (cut_facts c n hc')
  generalize a.extract 0 n = a1 at *
  generalize b.extract 0 n = b1 at *
  generalize c.extract 0 n = c1 at *
  go_wp2_with (at_make; refine wpList_make_full _ rfl _ _ 30 rfl w.heap.size 5 i0 (.int .u8 0) 1 Try.underlying30 hi hz0 hz1 .i64 .i64 _ _ n rfl rfl rfl rfl ?b2 ?b3 ?b4 ?_)
  case b2 => rw [hz2]; omega
  case b3 => unfold maxLen; omega
  case b4 => simp
  intro w1 hown hgrow
  have hby : BytesAt w1 w.heap.size w.heap.size (Crc.xor3 a.data.toList b.data.toList c.data.toList 0 ++ List.replicate (n - 0) 0) := bytesAt_made hown hgrow (by simp [Crc.xor3])
  have hbel : Below w.heap.size w w1 := (Below.drewN (Below.refl _ _) nq).grown hgrow (by simp) (fun _ h => by cases h)
  have sa : (n : Int) ≤ (a1.size : Int) := by rw [hxa.out.1]; omega
  have ta : (a1.size : Int) ≤ 50000 := by rw [hxa.out.1]; omega
  have sb : (n : Int) ≤ (b1.size : Int) := by rw [hxb.out.1]; omega
  have tb : (b1.size : Int) ≤ 50000 := by rw [hxb.out.1]; omega
  have sc : (n : Int) ≤ (c1.size : Int) := by rw [hxc.out.1]; omega
  have tc : (c1.size : Int) ≤ 50000 := by rw [hxc.out.1]; omega
  clear hown hgrow hmin ha hb hc
  go_wp2_with fail
  go_loopw [9] (fun i wr => ∃ k : Nat, k ≤ n ∧ i = .int .i64 k ∧ BytesAt wr w.heap.size w.heap.size (Crc.xor3 a.data.toList b.data.toList c.data.toList k ++ List.replicate (n - k) 0) ∧ Below w.heap.size w wr) (fun i _ => n - (intOf i).toNat)
  case atStart => exact ⟨0, by omega, rfl, hby, hbel⟩
  case round =>
    clear hby hbel
    obtain ⟨k, hk, rfl, hby, hbel⟩ := hrel
    have HBY := Lib.hid hby
    clear hby
    by_cases hlt : k < n
    · have hidx : k < (Crc.xor3 a.data.toList b.data.toList c.data.toList k ++ List.replicate (n - k) 0).length := by rw [List.length_append, Crc.xor3_length, List.length_replicate]; omega
      obtain ⟨hc, hfr⟩ := HBY.out.2.2 k hidx
      generalize ((Crc.xor3 a.data.toList b.data.toList c.data.toList k ++ List.replicate (n - k) 0)[k]).toNat = z at hc
      have h1 : (k : Int) < (a1.size : Int) := by omega
      have h2 : (k : Int) < (b1.size : Int) := by omega
      have h3 : (k : Int) < (c1.size : Int) := by omega
      have HIDX := Lib.hid hidx
      clear hidx
      go_wp2_with fail
      go_region
      go_wp2_with fail
      go_roundw
      case rel =>
        refine ⟨k + 1, by omega, by go_num, ?_, (hbel.setCell (Nat.le_refl _) _).drew⟩
        rw [← Crc.xor3_set _ _ _ _ _ hlt (a1[k] ^^^ b1[k] ^^^ c1[k]) (by rw [Crc.getD_take hxa.out.2 k _ hlt, Crc.getD_take hxb.out.2 k _ hlt, Crc.getD_take hxc.out.2 k _ hlt])]
        exact (HBY.out.stored k HIDX.out _ _ (by rw [Crc.xor3_bits])).drew
      case measure => simp [intOf]; omega
    · obtain rfl : k = n := by omega
      rw [Nat.sub_self, List.replicate_zero, List.append_nil] at HBY
      have f1 : StrsFit [a1] 1 := fit_one (by unfold maxLen; omega)
      have f2 : StrsFit [b1] 1 := fit_one (by unfold maxLen; omega)
      have f3 : StrsFit [c1] 1 := fit_one (by unfold maxLen; omega)
      have HL : Hid ((Crc.xor3 a.data.toList b.data.toList c.data.toList k).length = k) := Lib.hid (Crc.xor3_length _ _ _ _)
      have hlin := Crc.linear a.data.toList b.data.toList c.data.toList k (by simp; omega) (by simp; omega) (by simp; omega)
      rw [← hxa.out.2, ← hxb.out.2, ← hxc.out.2] at hlin
      generalize Crc.xor3 a.data.toList b.data.toList c.data.toList k = l at *
      have hl0 : Crc.sumL [a1] ^^^ Crc.sumL [b1] ^^^ Crc.sumL [c1] ^^^ Crc.sumL [(⟨l.toArray⟩ : ByteArray)] = 0 := hlin
      have f4 : StrsFit [(⟨l.toArray⟩ : ByteArray)] 1 := fit_one (by show l.toArray.size ≤ _; rw [List.size_toArray, HL.out]; unfold maxLen; omega)
      have HLIN := Lib.hid hl0
      clear hlin hl0
      obtain ⟨B, hB⟩ : ∃ B, B = w.heap.size := ⟨_, rfl⟩
      go_wp2_with fail
      rw [← hB] at HBY hbel ⊢
      have HB := Lib.hid hB
      clear hB
      refine wp_region_local (R := linR a1 b1 c1 ⟨l.toArray⟩ B k) (by kernel_rfl) (by kernel_rfl) (linR_below _ _ _ _ _ _) (dst_lt (n := 67) (by kernel_rfl)) (steps_of ?hsteps) ?hdone
      case hdone =>
        intro a w2 hb2 _ hdef _ hmet
        have e6 : a.tmps[6]?.getD undef = .bool true := by rw [← getD_spelt]; exact hmet 20 _ 6 rfl rfl
        go_wp2_with fail
        refine bodyPost_ret (v := .bool true) (by simp [results, Try.results7, go_sem, e6]) hdef ⟨rfl, ?_⟩
        have hfin := hbel.trans (hb2.mono (show B ≤ wr.heap.size by rw [HB.out]; exact hbel.size))
        rw [HB.out] at hfin
        exact hfin
      refine ⟨?_, ?_, ?_, ?_, ?_, ?_, ?_, ?_, ?_, ?_, ?_, ?_, ?_, ?_, ?_, ?_, ?_, ?_, ?_, ?_, ?_, trivial⟩
      · refine stepOk_value rfl fun a w ht => ?_
        have e1 := ht.old' 0 (.string a1) (by kernel_rfl) rfl
        exact ⟨_, w, by go_simp, Below.refl _ _, rfl⟩
      · refine stepOk_value rfl fun a w ht => ?_
        have e1 : a.tmps[47]?.getD undef = .string a1 := ht.dep' 0 47 (by kernel_rfl) rfl
        exact ⟨_, w.alloc (.cells #[.string a1] 9), by go_simp, (Below.refl _ _).alloc (Nat.le_refl _) _, _, rfl, strs_top _ _ _⟩
      · refine stepOk_call rfl fun a w ht => ?_
        obtain ⟨ao, e1, e2⟩ := ht.dep' 1 48 (by kernel_rfl) rfl
        refine ⟨16, #[.slice ao 1 1], by go_simp, (sum_at _ 1 1 [a1] _ rfl f1 e2).mono ?_⟩
        rintro e w' ⟨rfl, rfl⟩
        exact ⟨_, rfl, Below.refl _ _, rfl⟩
      · refine stepOk_value rfl fun a w ht => ?_
        have e1 := ht.old' 1 (.string b1) (by kernel_rfl) rfl
        exact ⟨_, w, by go_simp, Below.refl _ _, rfl⟩
      · refine stepOk_value rfl fun a w ht => ?_
        have e1 : a.tmps[50]?.getD undef = .string b1 := ht.dep' 3 50 (by kernel_rfl) rfl
        exact ⟨_, w.alloc (.cells #[.string b1] 9), by go_simp, (Below.refl _ _).alloc (Nat.le_refl _) _, _, rfl, strs_top _ _ _⟩
      · refine stepOk_call rfl fun a w ht => ?_
        obtain ⟨ao, e1, e2⟩ := ht.dep' 4 51 (by kernel_rfl) rfl
        refine ⟨16, #[.slice ao 1 1], by go_simp, (sum_at _ 1 1 [b1] _ rfl f2 e2).mono ?_⟩
        rintro e w' ⟨rfl, rfl⟩
        exact ⟨_, rfl, Below.refl _ _, rfl⟩
      · refine stepOk_value rfl fun a w ht => ?_
        have e1 : a.tmps[49]?.getD undef = .int .u32 ((Crc.sumL [a1] : Nat) : Int) := ht.dep' 2 49 (by kernel_rfl) rfl
        have e2 : a.tmps[52]?.getD undef = .int .u32 ((Crc.sumL [b1] : Nat) : Int) := ht.dep' 5 52 (by kernel_rfl) rfl
        have e3 := xor32 (Crc.sumL_lt _) (Crc.sumL_lt [b1]) (x := Crc.sumL [a1])
        refine ⟨.int .u32 ((Crc.sumL [a1] ^^^ Crc.sumL [b1] : Nat) : Int), w, ?_, Below.refl _ _, rfl⟩
        rw [← e3]
        clear e3
        go_simp
      · refine stepOk_value rfl fun a w ht => ?_
        have e1 := ht.old' 2 (.string c1) (by kernel_rfl) rfl
        exact ⟨_, w, by go_simp, Below.refl _ _, rfl⟩
      · refine stepOk_value rfl fun a w ht => ?_
        have e1 : a.tmps[54]?.getD undef = .string c1 := ht.dep' 7 54 (by kernel_rfl) rfl
        exact ⟨_, w.alloc (.cells #[.string c1] 9), by go_simp, (Below.refl _ _).alloc (Nat.le_refl _) _, _, rfl, strs_top _ _ _⟩
      · refine stepOk_call rfl fun a w ht => ?_
        obtain ⟨ao, e1, e2⟩ := ht.dep' 8 55 (by kernel_rfl) rfl
        refine ⟨16, #[.slice ao 1 1], by go_simp, (sum_at _ 1 1 [c1] _ rfl f3 e2).mono ?_⟩
        rintro e w' ⟨rfl, rfl⟩
        exact ⟨_, rfl, Below.refl _ _, rfl⟩
      · refine stepOk_value rfl fun a w ht => ?_
        have e1 : a.tmps[53]?.getD undef = .int .u32 ((Crc.sumL [a1] ^^^ Crc.sumL [b1] : Nat) : Int) := ht.dep' 6 53 (by kernel_rfl) rfl
        have e2 : a.tmps[56]?.getD undef = .int .u32 ((Crc.sumL [c1] : Nat) : Int) := ht.dep' 9 56 (by kernel_rfl) rfl
        have e3 := xor32 (Crc.xor_lt (Crc.sumL_lt _) (Crc.sumL_lt _)) (Crc.sumL_lt [c1]) (x := Crc.sumL [a1] ^^^ Crc.sumL [b1])
        refine ⟨.int .u32 ((Crc.sumL [a1] ^^^ Crc.sumL [b1] ^^^ Crc.sumL [c1] : Nat) : Int), w, ?_, Below.refl _ _, rfl⟩
        rw [← e3]
        clear e3
        go_simp
      · refine stepOk_value rfl fun a w ht => ?_
        have e1 := ht.old' 8 _ (by kernel_rfl) rfl
        exact ⟨_, w, by go_simp, Below.refl _ _, rfl⟩
      · refine stepOk_value rfl fun a w ht => ?_
        have e1 : a.tmps[58]?.getD undef = .slice (some ⟨B, 0, none⟩) k k := ht.dep' 11 58 (by kernel_rfl) rfl
        have e2 := back_at w B B k k l (HBY.out.below ht.below) HL.out
        exact ⟨_, w, by go_simp, Below.refl _ _, rfl⟩
      · refine stepOk_value rfl fun a w ht => ?_
        have e1 : a.tmps[59]?.getD undef = .string (⟨l.toArray⟩ : ByteArray) := ht.dep' 12 59 (by kernel_rfl) rfl
        exact ⟨_, w.alloc (.cells #[.string (⟨l.toArray⟩ : ByteArray)] 9), by go_simp, (Below.refl _ _).alloc (Nat.le_refl _) _, _, rfl, strs_top _ _ _⟩
      · refine stepOk_call rfl fun a w ht => ?_
        obtain ⟨ao, e1, e2⟩ := ht.dep' 13 60 (by kernel_rfl) rfl
        refine ⟨16, #[.slice ao 1 1], by go_simp, (sum_at _ 1 1 [(⟨l.toArray⟩ : ByteArray)] _ rfl f4 e2).mono ?_⟩
        rintro e w' ⟨rfl, rfl⟩
        exact ⟨_, rfl, Below.refl _ _, rfl⟩
      · refine stepOk_value rfl fun a w ht => ?_
        have e1 : a.tmps[57]?.getD undef = .int .u32 ((Crc.sumL [a1] ^^^ Crc.sumL [b1] ^^^ Crc.sumL [c1] : Nat) : Int) := ht.dep' 10 57 (by kernel_rfl) rfl
        have e2 : a.tmps[61]?.getD undef = .int .u32 ((Crc.sumL [(⟨l.toArray⟩ : ByteArray)] : Nat) : Int) := ht.dep' 14 61 (by kernel_rfl) rfl
        have e3 := xor32 (Crc.xor_lt (Crc.xor_lt (Crc.sumL_lt _) (Crc.sumL_lt _)) (Crc.sumL_lt _)) (Crc.sumL_lt [(⟨l.toArray⟩ : ByteArray)]) (x := Crc.sumL [a1] ^^^ Crc.sumL [b1] ^^^ Crc.sumL [c1])
        refine ⟨.int .u32 ((Crc.sumL [a1] ^^^ Crc.sumL [b1] ^^^ Crc.sumL [c1] ^^^ Crc.sumL [(⟨l.toArray⟩ : ByteArray)] : Nat) : Int), w, ?_, Below.refl _ _, rfl⟩
        rw [← e3]
        clear e3
        go_simp
      · refine stepOk_value rfl fun a w ht => ?_
        have e1 : a.tmps[62]?.getD undef = .int .u32 ((Crc.sumL [a1] ^^^ Crc.sumL [b1] ^^^ Crc.sumL [c1] ^^^ Crc.sumL [(⟨l.toArray⟩ : ByteArray)] : Nat) : Int) := ht.dep' 15 62 (by kernel_rfl) rfl
        rw [HLIN.out] at e1
        exact ⟨.bool true, w, by go_simp, Below.refl _ _, rfl⟩
      · refine stepOk_value rfl fun a w ht => ?_
        have e1 : a.tmps[63]?.getD undef = .bool true := ht.dep' 16 63 (by kernel_rfl) rfl
        exact ⟨_, w, by go_simp, Below.refl _ _, rfl⟩
      · refine stepOk_call_guarded 17 64 true rfl (by kernel_rfl) rfl (by show (64 : Nat) < 67; decide) (fun _ _ h => h) fun a w ht => ?_
        refine ⟨18, #[], by go_simp, (awake_any w).mono ?_⟩
        rintro e w' ⟨rfl, hb⟩
        exact ⟨_, rfl, hb, rfl⟩
      · refine stepOk_value rfl fun a w ht => ?_
        have e1 : a.tmps[64]?.getD undef = .bool true := ht.dep' 17 64 (by kernel_rfl) rfl
        have e2 : a.tmps[65]?.getD undef = .bool true := ht.dep' 18 65 (by kernel_rfl) rfl
        exact ⟨_, w, by go_simp, Below.refl _ _, rfl⟩
      · refine stepOk_value rfl fun a w ht => ?_
        have e1 : a.tmps[66]?.getD undef = .bool true := ht.dep' 19 66 (by kernel_rfl) rfl
        exact ⟨_, w, by go_simp, Below.refl _ _, rfl⟩
end Go.Proofs.Ytcnnfbmfhjphfaa
