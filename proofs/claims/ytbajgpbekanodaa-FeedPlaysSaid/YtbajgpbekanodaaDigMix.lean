/- The walk over digest.words.mix. -/
import Derived.Test.YtbajgpbekanodaaDigArr
import Derived.BigQuiet
import Derived.BigRegion
import Derived.StillTailTactics
import Derived.Deep.QuietTactic
import Derived.Deep.CutRange
namespace Go.Proofs.Ytbajgpbekanodaa
open Go.RowKit

/-- Words in an array of 64. -/
def arr (l : List Nat) : List Nat := l ++ List.replicate (64 - l.length) 0
theorem arr_length (l : List Nat) (h : l.length ≤ 64) : (arr l).length = 64 := by unfold arr; simp; omega
theorem arr_get (l : List Nat) (i : Nat) (h : i < l.length) : (arr l).getD i 0 = l.getD i 0 := by unfold arr; simp [List.getD, List.getElem?_append_left h]
theorem arr_set (l : List Nat) (v : Nat) (h : l.length < 64) : (arr l).set l.length v = arr (l ++ [v]) := by
  unfold arr
  rw [List.set_append_right _ _ (Nat.le_refl _), Nat.sub_self]
  obtain ⟨n, hn⟩ : ∃ n, 64 - l.length = n + 1 := ⟨64 - l.length - 1, by omega⟩
  rw [hn, List.replicate_succ, List.set_cons_zero, List.length_append, List.length_singleton, show 64 - (l.length + 1) = n by omega]
  simp

set_option maxRecDepth 100000 in
theorem word_or (b0 b1 b2 b3 : Nat) (h0 : b0 < 256) (h1 : b1 < 256) (h2 : b2 < 256) (h3 : b3 < 256) :
    bits BinOp.or IntKind.u32 (bits BinOp.or IntKind.u32 (bits BinOp.or IntKind.u32 (IntKind.u32.wrap (IntKind.u32.wrap (b0 : Int) * 16777216)) (IntKind.u32.wrap (IntKind.u32.wrap (b1 : Int) * 65536))) (IntKind.u32.wrap (IntKind.u32.wrap (b2 : Int) * 256))) (IntKind.u32.wrap (b3 : Int)) =
      ((((b0 * 256 + b1) * 256 + b2) * 256 + b3 : Nat) : Int) := by
  simp only [IntKind.wrap_u32']
  have e0 : (b0 : Int) % 4294967296 * 16777216 % 4294967296 = ((b0 * 16777216 : Nat) : Int) := by omega
  have e1 : (b1 : Int) % 4294967296 * 65536 % 4294967296 = ((b1 * 65536 : Nat) : Int) := by omega
  have e2 : (b2 : Int) % 4294967296 * 256 % 4294967296 = ((b2 * 256 : Nat) : Int) := by omega
  have e3 : (b3 : Int) % 4294967296 = (b3 : Int) := by omega
  rw [e0, e1, e2, e3, u32_or_nat _ _ (by omega) (by omega), nat_join 24 (b0 * 16777216) (b1 * 65536) (by simp only [Nat.reducePow]; omega) (by simp only [Nat.reducePow]; omega),
    u32_or_nat _ _ (by omega) (by omega), nat_join 16 _ (b2 * 256) (by simp only [Nat.reducePow]; omega) (by simp only [Nat.reducePow]; omega),
    u32_or_nat _ _ (by omega) (by omega), nat_join 8 _ b3 (by simp only [Nat.reducePow]; omega) (by simp only [Nat.reducePow]; omega)]
  congr 1
  omega
theorem word_at (s : ByteArray) (hs : s.size = 64) (k : Nat) (hk : k < 16) : (Sha.words s.data.toList).getD k 0 =
    ((s[4 * k].toNat * 256 + s[4 * k + 1].toNat) * 256 + s[4 * k + 2].toNat) * 256 + s[4 * k + 3].toNat := by
  have hl : s.data.toList.length = 64 := by simpa using hs
  have e : (Sha.words s.data.toList).getD k 0 = Oct.un ((s.data.toList.drop (4 * k)).take 4) := by unfold Sha.words; simp [List.getD, hk]
  rw [e, List.drop_eq_getElem_cons (by omega), List.drop_eq_getElem_cons (by omega), List.drop_eq_getElem_cons (by omega), List.drop_eq_getElem_cons (by omega)]
  simp only [List.take_succ_cons, List.take_zero]
  unfold Oct.un
  simp only [List.foldl_cons, List.foldl_nil, Nat.zero_mul, Nat.zero_add]
  rfl

theorem sig0_bits (x : Nat) (hx : x < 4294967296) : bits BinOp.xor IntKind.u32 (bits BinOp.xor IntKind.u32 ((Sha.rotr x 7 : Nat) : Int) ((Sha.rotr x 18 : Nat) : Int)) ((x : Int) / 8) = ((Sha.sig0 x : Nat) : Int) := by
  rw [u32_xor_nat _ _ (Sha.rotr_lt hx) (Sha.rotr_lt hx), show (x : Int) / 8 = ((x / 8 : Nat) : Int) by simp, u32_xor_nat _ _ (Sha.xor_lt (Sha.rotr_lt hx) (Sha.rotr_lt hx)) (by omega)]
  rfl
theorem sig1_bits (x : Nat) (hx : x < 4294967296) : bits BinOp.xor IntKind.u32 (bits BinOp.xor IntKind.u32 ((Sha.rotr x 17 : Nat) : Int) ((Sha.rotr x 19 : Nat) : Int)) ((x : Int) / 1024) = ((Sha.sig1 x : Nat) : Int) := by
  rw [u32_xor_nat _ _ (Sha.rotr_lt hx) (Sha.rotr_lt hx), show (x : Int) / 1024 = ((x / 1024 : Nat) : Int) by simp, u32_xor_nat _ _ (Sha.xor_lt (Sha.rotr_lt hx) (Sha.rotr_lt hx)) (by omega)]
  rfl
theorem xor3 (x y z : Nat) (hx : x < 4294967296) (hy : y < 4294967296) (hz : z < 4294967296) : bits BinOp.xor IntKind.u32 (bits BinOp.xor IntKind.u32 (x : Int) (y : Int)) (z : Int) = ((x ^^^ y ^^^ z : Nat) : Int) := by
  rw [u32_xor_nat _ _ hx hy, u32_xor_nat _ _ (Sha.xor_lt hx hy) hz]
theorem not_bits {x : Nat} (hx : x < 4294967296) : bits BinOp.xor IntKind.u32 IntKind.u32.max (x : Int) = ((4294967295 - x : Nat) : Int) := by
  have e : IntKind.u32.max = ((4294967295 : Nat) : Int) := by decide
  rw [e, u32_xor_nat _ _ (by decide) hx]
  congr 1
  apply Nat.eq_of_testBit_eq
  intro i
  rw [Nat.testBit_xor, show 4294967295 - x = 2 ^ 32 - (x + 1) by omega, Nat.testBit_two_pow_sub_succ (by omega), show 4294967295 = 2 ^ 32 - 1 by rfl, Nat.testBit_two_pow_sub_one]
  by_cases hi : i < 32
  · simp [hi]
  · have : x.testBit i = false := Nat.testBit_lt_two_pow (Nat.lt_of_lt_of_le (show x < 2 ^ 32 by omega) (Nat.pow_le_pow_right (by omega) (by omega)))
    simp [hi, this]
theorem add5_wrap (a b c d e : Nat) : IntKind.u32.wrap (IntKind.u32.wrap (IntKind.u32.wrap (IntKind.u32.wrap ((a : Int) + (b : Int)) + (c : Int)) + (d : Int)) + (e : Int)) = (((a + b + c + d + e) % 4294967296 : Nat) : Int) := by
  rw [IntKind.wrap_u32', IntKind.wrap_u32', IntKind.wrap_u32', IntKind.wrap_u32']
  omega
theorem rnds_succ (L : List Nat) (n : Nat) (v : Sha.St) : Sha.rnds L (n + 1) v = Sha.rnd (Sha.rnds L n v) (Sha.K.getD n 0) (L.getD n 0) := rfl
theorem wds_more (b : List UInt8) : Sha.more (64 - 16) (Sha.words b) = Sha.wds b := by
  show Sha.more 48 _ = _
  unfold Sha.wds
  rfl
theorem mix_fin (v : Sha.St) (b : List UInt8) (L : List Nat) (hL : L = Sha.wds b) (n : Nat) (hn : n = 64) : Sha.mix v b = (Sha.rnds L n v).add v := by
  unfold Sha.mix
  rw [hL, hn]
theorem K_lt (n : Nat) : Sha.K.getD n 0 < 4294967296 := by
  by_cases h : n < 64
  · have hall : ∀ i : Fin 64, Sha.K.getD i.1 0 < 4294967296 := by decide +kernel
    exact hall ⟨n, h⟩
  · have e : Sha.K.getD n 0 = 0 := by rw [List.getD_eq_getElem?_getD, List.getElem?_eq_none (by show 64 ≤ n; omega)]; rfl
    rw [e]; omega
theorem add4_wrap (a b c d : Nat) : IntKind.u32.wrap (IntKind.u32.wrap (IntKind.u32.wrap ((a : Int) + (b : Int)) + (c : Int)) + (d : Int)) = (((a + b + c + d) % 4294967296 : Nat) : Int) := by
  rw [IntKind.wrap_u32', IntKind.wrap_u32', IntKind.wrap_u32']
  omega

/-- A state, its first words added to another one's. -/
def addP (a b : Sha.St) (n : Nat) : List Nat :=
  [if 0 < n then (a.a + b.a) % 4294967296 else a.a, if 1 < n then (a.b + b.b) % 4294967296 else a.b, if 2 < n then (a.c + b.c) % 4294967296 else a.c, if 3 < n then (a.d + b.d) % 4294967296 else a.d,
    if 4 < n then (a.e + b.e) % 4294967296 else a.e, if 5 < n then (a.f + b.f) % 4294967296 else a.f, if 6 < n then (a.g + b.g) % 4294967296 else a.g, if 7 < n then (a.h + b.h) % 4294967296 else a.h]
theorem addP_get (a b : Sha.St) (n : Nat) (h : n < 8) : (addP a b n).getD n 0 = a.list.getD n 0 := by
  have : n = 0 ∨ n = 1 ∨ n = 2 ∨ n = 3 ∨ n = 4 ∨ n = 5 ∨ n = 6 ∨ n = 7 := by omega
  rcases this with rfl | rfl | rfl | rfl | rfl | rfl | rfl | rfl <;> rfl
theorem addP_set (a b : Sha.St) (n : Nat) (h : n < 8) : (addP a b n).set n ((a.list.getD n 0 + b.list.getD n 0) % 4294967296) = addP a b (n + 1) := by
  have : n = 0 ∨ n = 1 ∨ n = 2 ∨ n = 3 ∨ n = 4 ∨ n = 5 ∨ n = 6 ∨ n = 7 := by omega
  rcases this with rfl | rfl | rfl | rfl | rfl | rfl | rfl | rfl <;> rfl
theorem addP_all (a b : Sha.St) : (a.add b).list = addP a b 8 := rfl
theorem addP_none (a b : Sha.St) : a.list = addP a b 0 := rfl
theorem add2_wrap (a b : Nat) : IntKind.u32.wrap ((a : Int) + (b : Int)) = (((a + b) % 4294967296 : Nat) : Int) := by
  rw [IntKind.wrap_u32']; omega

/-- The world under a new name. -/
theorem name_list {P : Program} {ops : Array Oper} {rest : List Oper} {Q : Exit → Act → World → Prop} {a : Act} {w : World} (R : World → Prop) (h : R w) (k : ∀ w', R w' → wpList P ops Q rest a w') : wpList P ops Q rest a w := k w h
/-- The world under a new name. -/
theorem name_world {P : Program} {c : Code} {Q : Exit → Act → World → Prop} {a : Act} {w : World} (R : World → Prop) (h : R w) (k : ∀ w', R w' → c.wp P Q a w') : c.wp P Q a w := k w h
theorem below_drewN {B : Nat} {a w : World} (h : Below B a w) (n : Nat) : Below B a (w.drewN n) := ⟨h.os, h.tape, h.output, h.size, h.block⟩
theorem words_setRow {w : World} {B : Nat} {l : List Nat} (h : Words w B l) {D : Nat} (hne : B ≠ D) (cs : Array Value) : Words (w.setRow D cs) B l := by
  obtain ⟨t, h⟩ := h
  exact ⟨t, (setRow_other w D B cs hne).trans h⟩
theorem words_at {w : World} (n : Nat) (hn : n = w.heap.size) (l : List Nat) (cs : Array Value) (t : TypeId) (h : cs = cel l) : Words (w.alloc (.cells cs t)) n l := by
  subst hn; exact words_new l cs t h

set_option maxRecDepth 100000 in
set_option maxHeartbeats 8000000 in
theorem mix_any (v : Sha.St) (hv : v.ok) (s : ByteArray) (hs : s.size = 64) (w : World) :
    Calls Try.prog 78 #[.agg (cel v.list), .string s] w fun e w' => e = .returned (.agg (cel (Sha.mix v s.data.toList).list)) ∧ Below w.heap.size w w' := by
  have HS := Lib.hid hs
  have hs3 : (64 : Int) ≤ (s.size : Int) := by omega
  have hs4 : (s.size : Int) ≤ 64 := by omega
  obtain ⟨W, hW⟩ : ∃ W, W = Sha.words s.data.toList := ⟨_, rfl⟩
  have HW := Lib.hid hW
  have HWL : Hid (W.length = 16) := by show _ = _; rw [hW, Sha.words_length]
  have HV := Lib.hid hv
  obtain ⟨mx, hmx⟩ : ∃ mx, mx = Sha.mix v s.data.toList := ⟨_, rfl⟩
  have HMX := Lib.hid hmx
  rw [← hmx]
  clear hmx
  clear hs hW hv
  go_enter Try.func78, Try.ntmps78
  go_upto_region 2 with fail
  refine name_world (fun w3 => Words w3 w.heap.size v.list ∧ Words w3 (w.heap.size + 1) (List.replicate 8 0) ∧ Words w3 (w.heap.size + 1 + 1) (arr (W.take 0)) ∧ Below w.heap.size w w3) ⟨?_, ?_, ?_, ?_⟩ ?_
  · exact ((words_at _ rfl _ _ _ rfl).alloc _).alloc _
  · exact (words_at _ (by simp) _ _ _ (by kernel_rfl)).alloc _
  · exact words_at _ (by simp) _ _ _ (by kernel_rfl)
  · exact (((Below.refl _ w).alloc (Nat.le_refl _) _).alloc (by simp) _).alloc (by simp; omega) _
  rintro w3 ⟨hA3, hB3, hC3, hb3⟩
  have HA := Lib.hid hA3
  have HB := Lib.hid hB3
  have HC := Lib.hid hC3
  have Hb := Lib.hid hb3
  clear hA3 hB3 hC3 hb3
  obtain ⟨B, hB⟩ : ∃ B, w.heap.size = B := ⟨_, rfl⟩
  rw [hB] at HA HB HC Hb ⊢
  have HBW := Lib.hid hB
  clear hB
  go_wp2_with fail
  go_loopw [6, 22] (fun _ i wr => ∃ k : Nat, (k : Int) ≤ 16 ∧ i = .int .i64 (k : Int) ∧ Hid (Words wr (B + 1 + 1) (arr (W.take k))) ∧ Hid (Words wr B v.list ∧ Words wr (B + 1) (List.replicate 8 0) ∧ Below B w wr)) (fun _ i _ => 16 - (intOf i).toNat)
  case atStart => exact ⟨0, by omega, rfl, HC, HA.out, HB.out, Hb.out⟩
  case round =>
    clear HA HB HC Hb
    obtain ⟨k, hk, rfl, HC, HO⟩ := hrel
    by_cases hlt : (k : Int) < 16
--R1{
    · have q0 : IntKind.i64.wrap (4 * (k : Int)) = 4 * (k : Int) := IntWalk.i64_in _ ⟨by omega, by omega⟩
      have q1 : IntKind.i64.wrap (4 * (k : Int) + 1) = 4 * (k : Int) + 1 := IntWalk.i64_in _ ⟨by omega, by omega⟩
      have q2 : IntKind.i64.wrap (4 * (k : Int) + 2) = 4 * (k : Int) + 2 := IntWalk.i64_in _ ⟨by omega, by omega⟩
      have q3 : IntKind.i64.wrap (4 * (k : Int) + 3) = 4 * (k : Int) + 3 := IntWalk.i64_in _ ⟨by omega, by omega⟩
      have z0 : 0 ≤ 4 * (k : Int) := by omega
      have z1 : 0 ≤ 4 * (k : Int) + 1 := by omega
      have z2 : 0 ≤ 4 * (k : Int) + 2 := by omega
      have z3 : 0 ≤ 4 * (k : Int) + 3 := by omega
      have t0 : (4 * (k : Int)).toNat = 4 * k := by omega
      have t1 : (4 * (k : Int) + 1).toNat = 4 * k + 1 := by omega
      have t2 : (4 * (k : Int) + 2).toNat = 4 * k + 2 := by omega
      have t3 : (4 * (k : Int) + 3).toNat = 4 * k + 3 := by omega
      have y0 : 4 * (k : Int) < (s.size : Int) := by omega
      have y1 : 4 * (k : Int) + 1 < (s.size : Int) := by omega
      have y2 : 4 * (k : Int) + 2 < (s.size : Int) := by omega
      have y3 : 4 * (k : Int) + 3 < (s.size : Int) := by omega
      have y4 : (k : Int) < 64 := by omega
      have hx := word_at s HS.out k (by omega)
      obtain ⟨b0, hb0⟩ : ∃ b, s[4 * k].toNat = b := ⟨_, rfl⟩
      obtain ⟨b1, hb1⟩ : ∃ b, s[4 * k + 1].toNat = b := ⟨_, rfl⟩
      obtain ⟨b2, hb2⟩ : ∃ b, s[4 * k + 2].toNat = b := ⟨_, rfl⟩
      obtain ⟨b3, hb3⟩ : ∃ b, s[4 * k + 3].toNat = b := ⟨_, rfl⟩
      have hor := word_or b0 b1 b2 b3 (by rw [← hb0]; exact s[4 * k].toNat_lt) (by rw [← hb1]; exact s[4 * k + 1].toNat_lt) (by rw [← hb2]; exact s[4 * k + 2].toNat_lt) (by rw [← hb3]; exact s[4 * k + 3].toNat_lt)
      have hW2 := HW.out
      rw [hb0, hb1, hb2, hb3, ← hW2] at hx
      rw [← hx] at hor
      have HX : Hid (∀ w2 : World, Words w2 (B + 1 + 1) (arr (W.take k)) → Words (w2.setCell ⟨B + 1 + 1, k, none⟩ (.int .u32 ((W.getD k 0 : Nat) : Int))) (B + 1 + 1) (arr (W.take (k + 1)))) := fun w2 h => by
        have h1 := h.set k (W.getD k 0)
        have hl := HWL.out
        have h2 := arr_set (W.take k) (W.getD k 0) (by rw [List.length_take]; omega)
        rw [List.length_take, show min k W.length = k by omega] at h2
        rw [h2] at h1
        rw [List.take_succ_eq_append_getElem (by omega)]
        have e : W.getD k 0 = W[k]'(by omega) := by simp [List.getD, show k < W.length by omega]
        rw [e] at h1
        rw [e]
        exact h1
      have hcl := HC.out.cell k (by have := HWL.out; unfold arr; simp; omega)
      have hfr := HC.out.frozen k
      generalize (arr (W.take k)).getD k 0 = old at *
      generalize W.getD k 0 = x at *
      clear hx hW2
      go_wp2_with fail
      go_still_tail 31, (by kernel_rfl)
      refine name_list (fun w2 => (w2.cell? ⟨B + 1 + 1, k, none⟩ = some (.int .u32 (old : Int)) ∧ w2.frozen? ⟨B + 1 + 1, k, none⟩ = false) ∧ Hid (Words w2 (B + 1 + 1) (arr (W.take k)) ∧ Words w2 B v.list ∧ Words w2 (B + 1) (List.replicate 8 0) ∧ Below B w w2)) ⟨⟨hcl, hfr⟩, HC.out, HO.out.1, HO.out.2.1, HO.out.2.2.drew⟩ ?_
      rintro w2 ⟨⟨hc2, hf2⟩, HO2⟩
      have HC3 := Lib.hid (HX.out w2 HO2.out.1)
      have HO3 : Hid (Words (w2.setCell ⟨B + 1 + 1, k, none⟩ (.int .u32 (x : Int))) B v.list ∧ Words (w2.setCell ⟨B + 1 + 1, k, none⟩ (.int .u32 (x : Int))) (B + 1) (List.replicate 8 0) ∧ Below B w (w2.setCell ⟨B + 1 + 1, k, none⟩ (.int .u32 (x : Int)))) :=
        ⟨HO2.out.2.1.other (by omega) _ _, HO2.out.2.2.1.other (by omega) _ _, HO2.out.2.2.2.setCell (p := ⟨B + 1 + 1, k, none⟩) (by simp; omega) _⟩
      clear HX HO HC hcl hfr HO2 hor q0 q1 q2 q3 z0 z1 z2 z3 t0 t1 t2 t3 y0 y1 y2 y3 y4 hb0 hb1 hb2 hb3
      go_wp2_with fail
      go_roundw
      case rel => exact ⟨k + 1, by omega, by go_num, HC3, HO3⟩
      case measure => simp [intOf]; omega
--}R1
    · obtain rfl : k = 16 := by omega
      have e16 : W.take 16 = W := by rw [← HWL.out]; exact List.take_length
      rw [e16] at HC
      have HWB : Hid (∀ i, W.getD i 0 < 4294967296) := by show ∀ i, _; rw [HW.out]; exact Sha.word_lt _
      clear e16
      go_wp2_with fail
      go_loopw [7, 8, 9, 10, 11] (fun i _ _ _ _ wr => ∃ n : Nat, 16 ≤ (n : Int) ∧ (n : Int) ≤ 64 ∧ i = .int .i64 (n : Int) ∧ Hid (Words wr (B + 1 + 1) (arr (Sha.more (n - 16) W))) ∧ Hid (Words wr B v.list ∧ Words wr (B + 1) (List.replicate 8 0) ∧ Below B w wr)) (fun i _ _ _ _ _ => 64 - (intOf i).toNat)
      case atStart => exact ⟨16, by omega, by omega, rfl, HC, HO⟩
      case round =>
        clear HC HO
        obtain ⟨n, h16, h64, rfl, HC, HO⟩ := hrel
        by_cases hlt : (n : Int) < 64
--R2{
        · obtain ⟨L, hL⟩ : ∃ L, Sha.more (n - 16) W = L := ⟨_, rfl⟩
          have hLn : L.length = n := by rw [← hL, Sha.more_length, HWL.out]; omega
          have HLB : ∀ i, L.getD i 0 < 4294967296 := by rw [← hL]; exact Sha.more_lt _ _ HWB.out
          have HNX : Hid (Sha.more (n + 1 - 16) W = L ++ [Sha.wNext L]) := by
            show _ = _
            rw [show n + 1 - 16 = (n - 16) + 1 by omega, Sha.more_succ, hL]
          rw [hL] at HC
          have hc15 := HC.out.cell (n - 15) (by rw [arr_length _ (by omega)]; omega)
          have hc2 := HC.out.cell (n - 2) (by rw [arr_length _ (by omega)]; omega)
          have hc16 := HC.out.cell (n - 16) (by rw [arr_length _ (by omega)]; omega)
          have hc7 := HC.out.cell (n - 7) (by rw [arr_length _ (by omega)]; omega)
          have hcn := HC.out.cell n (by rw [arr_length _ (by omega)]; omega)
          have hfn := HC.out.frozen n
          rw [arr_get _ _ (by omega)] at hc15 hc2 hc16 hc7
          have hwn : Sha.wNext L = (L.getD (n - 16) 0 + Sha.sig0 (L.getD (n - 15) 0) + L.getD (n - 7) 0 + Sha.sig1 (L.getD (n - 2) 0)) % 4294967296 := by unfold Sha.wNext; rw [hLn]
          have HX : Hid (∀ w2 : World, Words w2 (B + 1 + 1) (arr L) → Words (w2.setCell ⟨B + 1 + 1, n, none⟩ (.int .u32 ((Sha.wNext L : Nat) : Int))) (B + 1 + 1) (arr (Sha.more (n + 1 - 16) W))) := fun w2 h => by
            have h1 := h.set n (Sha.wNext L)
            have h2 := arr_set L (Sha.wNext L) (by omega)
            rw [hLn] at h2
            rw [h2] at h1
            rw [HNX.out]
            exact h1
          have x15 := HLB (n - 15)
          have x2 := HLB (n - 2)
          generalize L.getD (n - 16) 0 = y16 at *
          generalize L.getD (n - 15) 0 = y15 at *
          generalize L.getD (n - 7) 0 = y7 at *
          generalize L.getD (n - 2) 0 = y2 at *
          have hsum := add4_wrap y16 (Sha.sig0 y15) y7 (Sha.sig1 y2)
          rw [← hwn] at hsum
          have hs0 := sig0_bits y15 x15
          have hs1 := sig1_bits y2 x2
          generalize (arr L).getD n 0 = old at *
          generalize Sha.wNext L = x at *
          generalize Sha.sig0 y15 = s0 at *
          generalize Sha.sig1 y2 = s1 at *
          have q15 : IntKind.i64.wrap ((n : Int) - 15) = (n : Int) - 15 := IntWalk.i64_in _ ⟨by omega, by omega⟩
          have q2 : IntKind.i64.wrap ((n : Int) - 2) = (n : Int) - 2 := IntWalk.i64_in _ ⟨by omega, by omega⟩
          have q16 : IntKind.i64.wrap ((n : Int) - 16) = (n : Int) - 16 := IntWalk.i64_in _ ⟨by omega, by omega⟩
          have q7 : IntKind.i64.wrap ((n : Int) - 7) = (n : Int) - 7 := IntWalk.i64_in _ ⟨by omega, by omega⟩
          have z15 : 0 ≤ (n : Int) - 15 := by omega
          have z2 : 0 ≤ (n : Int) - 2 := by omega
          have z16 : 0 ≤ (n : Int) - 16 := by omega
          have z7 : 0 ≤ (n : Int) - 7 := by omega
          have m7 : 7 ≤ (n : Int) := by omega
          have m15 : 15 ≤ (n : Int) := by omega
          have m2 : 2 ≤ (n : Int) := by omega
          have t15 : ((n : Int) - 15).toNat = n - 15 := by omega
          have t2 : ((n : Int) - 2).toNat = n - 2 := by omega
          have t16 : ((n : Int) - 16).toNat = n - 16 := by omega
          have t7 : ((n : Int) - 7).toNat = n - 7 := by omega
          have y15' : (n : Int) - 15 < 64 := by omega
          have y2' : (n : Int) - 2 < 64 := by omega
          have y16' : (n : Int) - 16 < 64 := by omega
          have y7' : (n : Int) - 7 < 64 := by omega
          clear hwn HLB hL hLn HNX
          go_wp2_with fail
          go_quiet (fail)
          go_wp2_with fail
          refine (turn_7 _ x15 _).mono ?_
          rintro e w' ⟨rfl, rfl⟩
          go_wp2_with fail
          refine (turn_18 _ x15 _).mono ?_
          rintro e w' ⟨rfl, rfl⟩
          go_wp2_with fail
          refine (turn_17 _ x2 _).mono ?_
          rintro e w' ⟨rfl, rfl⟩
          go_wp2_with fail
          refine (turn_19 _ x2 _).mono ?_
          rintro e w' ⟨rfl, rfl⟩
          go_wp2_with fail
          refine name_world (fun w5 => (w5.cell? ⟨B + 1 + 1, n - 16, none⟩ = some (.int .u32 (y16 : Int)) ∧ w5.cell? ⟨B + 1 + 1, n - 7, none⟩ = some (.int .u32 (y7 : Int)) ∧ w5.cell? ⟨B + 1 + 1, n, none⟩ = some (.int .u32 (old : Int)) ∧ w5.frozen? ⟨B + 1 + 1, n, none⟩ = false) ∧ Hid (Words w5 (B + 1 + 1) (arr L) ∧ Words w5 B v.list ∧ Words w5 (B + 1) (List.replicate 8 0) ∧ Below B w w5)) ?_ ?_
          · have h := HO.out.2.2
            exact ⟨⟨hc16, hc7, hcn, hfn⟩, HC.out, HO.out.1, HO.out.2.1, ⟨h.os, h.tape, h.output, h.size, h.block⟩⟩
          clear hc15 hc2 hc16 hc7 hcn hfn HC HO
          rintro w5 ⟨⟨hc16, hc7, hcn, hfn⟩, HO⟩
          go_still_tail 15, (by kernel_rfl)
          refine name_list (fun w2 => (w2.cell? ⟨B + 1 + 1, n, none⟩ = some (.int .u32 (old : Int)) ∧ w2.frozen? ⟨B + 1 + 1, n, none⟩ = false) ∧ Hid (Words w2 (B + 1 + 1) (arr L) ∧ Words w2 B v.list ∧ Words w2 (B + 1) (List.replicate 8 0) ∧ Below B w w2)) ?_ ?_
          · have h := HO.out.2.2.2
            exact ⟨⟨hcn, hfn⟩, HO.out.1, HO.out.2.1, HO.out.2.2.1, ⟨h.os, h.tape, h.output, h.size, h.block⟩⟩
          rintro w2 ⟨⟨hc3, hf3⟩, HO2⟩
          have HC3 := Lib.hid (HX.out w2 HO2.out.1)
          have HO3 : Hid (Words (w2.setCell ⟨B + 1 + 1, n, none⟩ (.int .u32 (x : Int))) B v.list ∧ Words (w2.setCell ⟨B + 1 + 1, n, none⟩ (.int .u32 (x : Int))) (B + 1) (List.replicate 8 0) ∧ Below B w (w2.setCell ⟨B + 1 + 1, n, none⟩ (.int .u32 (x : Int)))) :=
            ⟨HO2.out.2.1.other (by omega) _ _, HO2.out.2.2.1.other (by omega) _ _, HO2.out.2.2.2.setCell (p := ⟨B + 1 + 1, n, none⟩) (by simp; omega) _⟩
          clear HX HO hc16 hc7 hcn hfn hs0 hs1 HO2 hsum x15 x2 q15 q2 q16 q7 z15 z2 z16 z7 t15 t2 t16 t7 y15' y2' y16' y7'
          go_wp2_with fail
          go_roundw
          case rel => exact ⟨n + 1, by omega, by omega, by go_num, HC3, HO3⟩
          case measure => simp [intOf]; omega
--}R2
        · obtain rfl : n = 64 := by omega
          obtain ⟨L, hL⟩ : ∃ L, Sha.more (64 - 16) W = L := ⟨_, rfl⟩
          have hLn : L.length = 64 := by rw [← hL, Sha.more_length, HWL.out]
          have HLW : Hid (L = Sha.wds s.data.toList) := by show _ = _; rw [← hL, HW.out]; exact wds_more _
          have HLL := Lib.hid hLn
          have HLB : Hid (∀ i, L.getD i 0 < 4294967296) := by show ∀ i, _; rw [← hL]; exact Sha.more_lt _ _ HWB.out
          have harr : arr L = L := by unfold arr; rw [hLn]; simp
          rw [hL, harr] at HC
          clear hL hLn harr HW HWL HWB
          have HVO : Hid (v.ok) := HV.out
          go_wp2_with fail
          refine (rounds_any _).mono ?_
          rintro e w7 ⟨rfl, hb7⟩
          have HO7 : Hid ((Words w7 B v.list ∧ Words w7 (B + 1) (List.replicate 8 0) ∧ Words w7 (B + 1 + 1) L) ∧ Below B w w7) := ⟨⟨HO.out.1.below hb7, HO.out.2.1.below hb7, HC.out.below hb7⟩, HO.out.2.2.trans (hb7.mono (Nat.le_of_lt HO.out.1.lt))⟩
          have hlt7 : B + 1 + 1 < w7.heap.size := HO7.out.1.2.2.lt
          have HLT7 := Lib.hid hlt7
          clear hb7 HO HC hlt7
          go_upto_region 15 with (refine wpList_store_row rfl 123 (.tmp 12) (.tmp 100) rfl w7.heap.size kArr rfl rfl _ _ (heap_alloc_new _ _) (by kernel_rfl) (by kernel_rfl) (by kernel_rfl) ?_)
          refine name_world (fun w8 => (Words w8 B v.list ∧ Words w8 (B + 1) (List.replicate 8 0) ∧ Words w8 (B + 1 + 1) L ∧ Words w8 w7.heap.size Sha.K) ∧ Below B w w8 ∧ w7.heap.size < w8.heap.size) ?_ ?_
          · have hb := below_setRow w7.heap.size (w7.alloc (.cells (Sha.K.map fun _ => Value.int .u32 0).toArray 123)) w7.heap.size kArr (Nat.le_refl _)
            have hb2 := ((Below.refl w7.heap.size w7).alloc (Nat.le_refl _) (.cells (Sha.K.map fun _ => Value.int .u32 0).toArray 123)).trans hb
            exact ⟨⟨HO7.out.1.1.below hb2, HO7.out.1.2.1.below hb2, HO7.out.1.2.2.below hb2, ⟨_, setRow_heap _ _ _ kArr _ _ (heap_alloc_new _ _)⟩⟩, HO7.out.2.trans (hb2.mono (Nat.le_of_lt HO7.out.1.1.lt)), by simp⟩
          rintro w8 ⟨HO8, hb8, hlt8⟩
          have HLT8 : Hid (B + 1 + 1 < w7.heap.size ∧ w7.heap.size < w8.heap.size) := ⟨HLT7.out, hlt8⟩
          have HO8 := Lib.hid HO8
          have HB8 := Lib.hid hb8
          clear HO7 HLT7 hb8 hlt8
          generalize w7.heap.size = C at *
          obtain ⟨tB, hgB⟩ := HO8.out.1
          have HGB := Lib.hid hgB
          clear hgB
          go_upto_region 16 with (first | (refine wpList_load_row rfl 90 (.tmp 2) rfl B rfl tB (cel v.list) (0, 0) _ HGB.out Try.underlying90 rfl (by kernel_rfl) ?_) | (refine wpList_store_row rfl 90 (.tmp 13) (.tmp 101) rfl w8.heap.size (cel v.list) rfl rfl _ _ (heap_alloc_new _ _) (by kernel_rfl) (by kernel_rfl) (by kernel_rfl) ?_))
          refine name_world (fun w9 => (Words w9 B v.list ∧ Words w9 (B + 1) (List.replicate 8 0) ∧ Words w9 (B + 1 + 1) L ∧ Words w9 C Sha.K) ∧ Below B w w9 ∧ Words w9 w8.heap.size v.list) ?_ ?_
          · have hb := below_setRow w8.heap.size (w8.alloc (.cells ((List.replicate 8 0).map fun n : Nat => Value.int .u32 (n : Int)).toArray 90)) w8.heap.size (cel v.list) (Nat.le_refl _)
            have hb2 := ((Below.refl w8.heap.size w8).alloc (Nat.le_refl _) (.cells ((List.replicate 8 0).map fun n : Nat => Value.int .u32 (n : Int)).toArray 90)).trans hb
            exact ⟨⟨HO8.out.1.below hb2, HO8.out.2.1.below hb2, HO8.out.2.2.1.below hb2, HO8.out.2.2.2.below hb2⟩, HB8.out.trans (hb2.mono (Nat.le_of_lt HO8.out.1.lt)), ⟨_, setRow_heap _ _ _ (cel v.list) _ _ (heap_alloc_new _ _)⟩⟩
          rintro w9 ⟨HO9, hb9, hv9⟩
          have HO := Lib.hid HO9
          have HB := Lib.hid hb9
          have HC := Lib.hid hv9
          clear HO8 HB8 HGB HO9 hb9 hv9
          generalize w8.heap.size = D at *
          go_wp2_with fail
          go_loopw [14, 15, 16, 17, 18, 19, 20, 102] (fun _ _ _ _ _ _ _ i wr => ∃ n : Nat, (n : Int) ≤ 64 ∧ i = .int .i64 (n : Int) ∧ Hid (Words wr D (Sha.rnds L n v).list) ∧ Hid ((Words wr B v.list ∧ Words wr (B + 1) (List.replicate 8 0) ∧ Words wr (B + 1 + 1) L ∧ Words wr C Sha.K) ∧ Below B w wr)) (fun _ _ _ _ _ _ _ i _ => 64 - (intOf i).toNat)
          case atStart => exact ⟨0, by omega, rfl, HC, HO.out, HB.out⟩
          case round =>
            clear HC HO HB
            obtain ⟨n, h64, rfl, HC, HO⟩ := hrel
            by_cases hlt : (n : Int) < 64
--R3{
            · have hok : (Sha.rnds L n v).ok := Sha.rnds_ok L n HVO.out
              have HNX := Lib.hid (rnds_succ L n v)
              have hwk := HO.out.1.2.2.2.cell n (by show n < 64; omega)
              have hwl := HO.out.1.2.2.1.cell n (by rw [HLL.out]; omega)
              have hkl : Sha.K.getD n 0 < 4294967296 := K_lt n
              have hll := HLB.out n
              generalize Sha.rnds L n v = st at *
              generalize Sha.K.getD n 0 = kk at *
              generalize L.getD n 0 = ww at *
              obtain ⟨a, b, c, d, e, f, g, p8⟩ := st
              obtain ⟨oa, ob, oc, od, oe, of, og, oh⟩ := hok
              dsimp only at oa ob oc od oe of og oh
              have hca := HC.out.cell 0 (by show 0 < 8; omega)
              have hcb := HC.out.cell 1 (by show 1 < 8; omega)
              have hcc := HC.out.cell 2 (by show 2 < 8; omega)
              have hcd := HC.out.cell 3 (by show 3 < 8; omega)
              have hce := HC.out.cell 4 (by show 4 < 8; omega)
              have hcf := HC.out.cell 5 (by show 5 < 8; omega)
              have hcg := HC.out.cell 6 (by show 6 < 8; omega)
              have hch := HC.out.cell 7 (by show 7 < 8; omega)
              simp only [Sha.St.list, List.getD_cons_zero, List.getD_cons_succ] at hca hcb hcc hcd hce hcf hcg hch
              have HR : Hid (Sha.rnd ⟨a, b, c, d, e, f, g, p8⟩ kk ww = ⟨((p8 + Sha.big1 e + Sha.ch e f g + kk + ww) % 4294967296 + Sha.big0 a + Sha.maj a b c) % 4294967296, a, b, c, (d + (p8 + Sha.big1 e + Sha.ch e f g + kk + ww) % 4294967296) % 4294967296, e, f, g⟩) := rfl
              have hb1 := xor3 _ _ _ (Sha.rotr_lt (k := 6) oe) (Sha.rotr_lt (k := 11) oe) (Sha.rotr_lt (k := 25) oe)
              have hb0 := xor3 _ _ _ (Sha.rotr_lt (k := 2) oa) (Sha.rotr_lt (k := 13) oa) (Sha.rotr_lt (k := 22) oa)
              have hne : bits BinOp.xor IntKind.u32 IntKind.u32.max (e : Int) = ((4294967295 - e : Nat) : Int) := not_bits oe
              have hnl : 4294967295 - e < 4294967296 := by omega
              have hef := u32_and_nat e f oe of
              have hng := u32_and_nat (4294967295 - e) g hnl og
              have hcx := u32_xor_nat (e &&& f) ((4294967295 - e) &&& g) (Sha.and_lt oe) (Sha.and_lt hnl)
              have hab := u32_and_nat a b oa ob
              have hac := u32_and_nat a c oa oc
              have hbc := u32_and_nat b c ob oc
              have hmj := xor3 (a &&& b) (a &&& c) (b &&& c) (Sha.and_lt oa) (Sha.and_lt oa) (Sha.and_lt ob)
              rw [show Sha.rotr e 6 ^^^ Sha.rotr e 11 ^^^ Sha.rotr e 25 = Sha.big1 e from rfl] at hb1
              rw [show Sha.rotr a 2 ^^^ Sha.rotr a 13 ^^^ Sha.rotr a 22 = Sha.big0 a from rfl] at hb0
              rw [show (e &&& f) ^^^ ((4294967295 - e) &&& g) = Sha.ch e f g from rfl] at hcx
              rw [show (a &&& b) ^^^ (a &&& c) ^^^ (b &&& c) = Sha.maj a b c from rfl] at hmj
              generalize Sha.big1 e = b1 at *
              generalize Sha.big0 a = b0 at *
              generalize Sha.ch e f g = cx at *
              generalize Sha.maj a b c = mj at *
              generalize 4294967295 - e = ne at *
              generalize e &&& f = ef at *
              generalize ne &&& g = ng at *
              generalize a &&& b = ab at *
              generalize a &&& c = ac at *
              generalize b &&& c = bc at *
              have hsum := add5_wrap p8 b1 cx kk ww
              obtain ⟨T, hT⟩ : ∃ T, (p8 + b1 + cx + kk + ww) % 4294967296 = T := ⟨_, rfl⟩
              have oT : T < 4294967296 := by rw [← hT]; exact Nat.mod_lt _ (by omega)
              rw [hT] at hsum
              have HE := Lib.hid oe
              have HA := Lib.hid oa
              clear hT hnl hkl hll oa ob oc od oe of og oh
              go_wp2_with fail
              refine (turn_6 _ HE.out _).mono ?_
              rintro e' w' ⟨rfl, rfl⟩
              go_wp2_with fail
              refine (turn_11 _ HE.out _).mono ?_
              rintro e' w' ⟨rfl, rfl⟩
              go_wp2_with fail
              refine (turn_25 _ HE.out _).mono ?_
              rintro e' w' ⟨rfl, rfl⟩
              go_wp2_with fail
              go_quiet (fail)
              go_wp2_with fail
              refine (turn_2 _ HA.out _).mono ?_
              rintro e' w' ⟨rfl, rfl⟩
              go_wp2_with fail
              refine (turn_13 _ HA.out _).mono ?_
              rintro e' w' ⟨rfl, rfl⟩
              go_wp2_with fail
              refine (turn_22 _ HA.out _).mono ?_
              rintro e' w' ⟨rfl, rfl⟩
              go_upto_region 25 with fail
              obtain ⟨tD, hgD⟩ := HC.out
              refine name_world (fun w5 => (w5.cell? ⟨D, 0, none⟩ = some (.int .u32 (a : Int)) ∧ w5.cell? ⟨D, 1, none⟩ = some (.int .u32 (b : Int)) ∧ w5.cell? ⟨D, 2, none⟩ = some (.int .u32 (c : Int)) ∧ w5.cell? ⟨D, 3, none⟩ = some (.int .u32 (d : Int)) ∧ w5.cell? ⟨D, 4, none⟩ = some (.int .u32 (e : Int)) ∧ w5.cell? ⟨D, 5, none⟩ = some (.int .u32 (f : Int)) ∧ w5.cell? ⟨D, 6, none⟩ = some (.int .u32 (g : Int))) ∧ Hid (w5.heap[D]? = some (.cells (cel [a, b, c, d, e, f, g, p8]) tD (0, 0))) ∧ Hid ((Words w5 B v.list ∧ Words w5 (B + 1) (List.replicate 8 0) ∧ Words w5 (B + 1 + 1) L ∧ Words w5 C Sha.K) ∧ Below B w w5)) ?_ ?_
              · have h := HO.out.2
                exact ⟨⟨hca, hcb, hcc, hcd, hce, hcf, hcg⟩, hgD, ⟨HO.out.1.1, HO.out.1.2.1, HO.out.1.2.2.1, HO.out.1.2.2.2⟩, ⟨h.os, h.tape, h.output, h.size, h.block⟩⟩
              clear hca hcb hcc hcd hce hcf hcg hch hwk hwl HC HO hgD hsum hb1 hb0 hne hef hng hcx hab hac hbc hmj HE HA
              rintro w5 ⟨⟨hca, hcb, hcc, hcd, hce, hcf, hcg⟩, HD, HO⟩
              go_wp2_with (refine wpList_store_row rfl 90 (.tmp 13) (.tmp 184) rfl D _ rfl rfl tD (cel [a, b, c, d, e, f, g, p8]) HD.out (by kernel_rfl) (by kernel_rfl) (by kernel_rfl) ?_)
              go_roundw
              case rel =>
                have e1 : ((p8 : Int) + (b1 : Int) + (cx : Int) + (kk : Int) + (ww : Int) + (b0 : Int) + (mj : Int)) % 4294967296 = ((((p8 + b1 + cx + kk + ww) % 4294967296 + b0 + mj) % 4294967296 : Nat) : Int) := by omega
                have e2 : ((d : Int) + ((p8 : Int) + (b1 : Int) + (cx : Int) + (kk : Int) + (ww : Int))) % 4294967296 = (((d + (p8 + b1 + cx + kk + ww) % 4294967296) % 4294967296 : Nat) : Int) := by omega
                rw [e1, e2]
                have hlt8 := HLT8.out
                refine ⟨n + 1, by omega, by go_num, ?_, ⟨words_setRow HO.out.1.1 (by omega) _, words_setRow HO.out.1.2.1 (by omega) _, words_setRow HO.out.1.2.2.1 (by omega) _, words_setRow HO.out.1.2.2.2 (by omega) _⟩, HO.out.2.trans (below_setRow B w5 D _ (by omega))⟩
                rw [HNX.out, HR.out]
                exact ⟨tD, setRow_heap w5 D _ _ tD _ HD.out⟩
              case measure => simp [intOf]; omega
--}R3
            · have hn64 : n = 64 := by omega
              have HFIN : Hid (mx.list = addP (Sha.rnds L n v) v 8) := by
                show _ = _
                rw [HMX.out, mix_fin v s.data.toList L HLW.out n hn64, addP_all]
              have HST0 : Hid ((Sha.rnds L n v).list = addP (Sha.rnds L n v) v 0) := addP_none _ _
              clear hn64
              generalize Sha.rnds L n v = st at *
              rw [HST0.out] at HC
              clear HST0
              go_wp2_with fail
              go_loopw [21, 186] (fun _ i wr => ∃ n : Nat, (n : Int) ≤ 8 ∧ i = .int .i64 (n : Int) ∧ Hid (Words wr D (addP st v n)) ∧ Hid ((Words wr B v.list ∧ Words wr (B + 1) (List.replicate 8 0)) ∧ Below B w wr)) (fun _ i _ => 8 - (intOf i).toNat)
              case atStart => exact ⟨0, by omega, rfl, HC, ⟨HO.out.1.1, HO.out.1.2.1⟩, HO.out.2⟩
              case round =>
                clear HC HO
                obtain ⟨n, h8, rfl, HC, HO⟩ := hrel
                by_cases hlt : (n : Int) < 8
--R4{
                · have hcd := HC.out.cell n (by show n < 8; omega)
                  have hfd := HC.out.frozen n
                  have hcb := HO.out.1.1.cell n (by show n < 8; omega)
                  rw [addP_get st v n (by omega)] at hcd
                  have HX : Hid (∀ w2 : World, Words w2 D (addP st v n) → Words (w2.setCell ⟨D, n, none⟩ (.int .u32 (((st.list.getD n 0 + v.list.getD n 0) % 4294967296 : Nat) : Int))) D (addP st v (n + 1))) := fun w2 h => by
                    have h1 := h.set n ((st.list.getD n 0 + v.list.getD n 0) % 4294967296)
                    rw [addP_set st v n (by omega)] at h1
                    exact h1
                  have hsum := add2_wrap (st.list.getD n 0) (v.list.getD n 0)
                  generalize (st.list.getD n 0 + v.list.getD n 0) % 4294967296 = x at *
                  generalize st.list.getD n 0 = y at *
                  generalize v.list.getD n 0 = z at *
                  go_wp2_with fail
                  go_still_tail 8, (by kernel_rfl)
                  refine name_list (fun w2 => (w2.cell? ⟨D, n, none⟩ = some (.int .u32 (y : Int)) ∧ w2.frozen? ⟨D, n, none⟩ = false) ∧ Hid (Words w2 D (addP st v n) ∧ (Words w2 B v.list ∧ Words w2 (B + 1) (List.replicate 8 0)) ∧ Below B w w2)) ?_ ?_
                  · have h := HO.out.2
                    exact ⟨⟨hcd, hfd⟩, HC.out, ⟨HO.out.1.1, HO.out.1.2⟩, ⟨h.os, h.tape, h.output, h.size, h.block⟩⟩
                  clear hcd hfd hcb HC HO
                  rintro w2 ⟨⟨hcd, hfd⟩, HO⟩
                  have hlt8 := HLT8.out
                  have HC3 := Lib.hid (HX.out w2 HO.out.1)
                  have HO3 : Hid ((Words (w2.setCell ⟨D, n, none⟩ (.int .u32 (x : Int))) B v.list ∧ Words (w2.setCell ⟨D, n, none⟩ (.int .u32 (x : Int))) (B + 1) (List.replicate 8 0)) ∧ Below B w (w2.setCell ⟨D, n, none⟩ (.int .u32 (x : Int)))) :=
                    ⟨⟨HO.out.2.1.1.other (by omega) _ _, HO.out.2.1.2.other (by omega) _ _⟩, HO.out.2.2.setCell (p := ⟨D, n, none⟩) (by simp; omega) _⟩
                  clear HX HO hsum hlt8
                  go_wp2_with fail
                  go_roundw
                  case rel => exact ⟨n + 1, by omega, by go_num, HC3, HO3⟩
                  case measure => simp [intOf]; omega
--}R4
                · obtain rfl : n = 8 := by omega
                  rw [← HFIN.out] at HC
                  obtain ⟨tD, hgD⟩ := HC.out
                  obtain ⟨tR, hgR⟩ := HO.out.1.2
                  have HGD := Lib.hid hgD
                  have HGR := Lib.hid hgR
                  clear hgD hgR
                  go_wp2_with (first | (refine wpList_load_row rfl 90 (.tmp 13) rfl D rfl tD (cel mx.list) (0, 0) _ HGD.out Try.underlying90 rfl (by kernel_rfl) ?_) | (refine wpList_store_row rfl 90 (.tmp 4) (.tmp 198) rfl (B + 1) (cel mx.list) rfl rfl tR (cel (List.replicate 8 0)) HGR.out (by kernel_rfl) (by kernel_rfl) (cel_one _) ?_))
                  exact bodyPost_ret (results_cell_row rfl _ _ (B + 1) tR (cel mx.list) (0, 0) _ rfl (setRow_heap _ _ _ _ _ _ HGR.out) Try.underlying90 rfl (by kernel_rfl)) rfl ⟨rfl, HBW.out ▸ HO.out.2.trans (below_setRow B _ (B + 1) _ (by omega))⟩
end Go.Proofs.Ytbajgpbekanodaa
