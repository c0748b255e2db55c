/- The walks over digest's Hex and Unhex. -/
import Derived.Test.YtbajgpbekanodaaDigProves
import Derived.BigQuiet
import Derived.Deep.RegionHeld3
import Derived.Deep.AppendLies
namespace Go.Proofs.Ytbajgpbekanodaa
open Go.RowKit

/-- A digit's byte. -/
def digB (n : Nat) : UInt8 := UInt8.ofNat (if n < 10 then 48 + n else 87 + n)
def hexL : List UInt8 → List UInt8
  | [] => []
  | b :: l => digB (b.toNat / 16) :: digB (b.toNat % 16) :: hexL l
theorem hexL_append (a b : List UInt8) : hexL (a ++ b) = hexL a ++ hexL b := by
  induction a with
  | nil => rfl
  | cons x a ih => simp [hexL, ih]
theorem hexL_length (l : List UInt8) : (hexL l).length = 2 * l.length := by
  induction l with
  | nil => rfl
  | cons x a ih => simp [hexL, ih]; omega
/-- A digit's number; none: it is no digit. -/
def undig (c : UInt8) : Option Nat := if 48 ≤ c.toNat ∧ c.toNat ≤ 57 then some (c.toNat - 48) else if 97 ≤ c.toNat ∧ c.toNat ≤ 102 then some (c.toNat - 87) else none
theorem undig_digB : ∀ n, n < 16 → undig (digB n) = some n := by decide
theorem digB_undig_all : ∀ c : Fin 256, (match undig (UInt8.ofNat c.val) with | some n => decide (n < 16) && decide (digB n = UInt8.ofNat c.val) | none => true) = true := by decide +kernel
theorem digB_undig (c : UInt8) (n : Nat) (h : undig c = some n) : n < 16 ∧ digB n = c := by
  have := digB_undig_all ⟨c.toNat, c.toNat_lt⟩
  simp only [UInt8.ofNat_toNat] at this
  rw [h] at this
  simpa using this
/-- The bytes of digits; none: there are others. -/
def unhexL : List UInt8 → Option (List UInt8)
  | [] => some []
  | [_] => none
  | a :: b :: l => match undig a, undig b, unhexL l with
    | some x, some y, some r => some (UInt8.ofNat (16 * x + y) :: r)
    | _, _, _ => none
theorem unhex_hex (l : List UInt8) : unhexL (hexL l) = some l := by
  induction l with
  | nil => rfl
  | cons b l ih =>
    show unhexL (digB (b.toNat / 16) :: digB (b.toNat % 16) :: hexL l) = _
    unfold unhexL
    have hb := b.toNat_lt
    rw [undig_digB _ (by omega), undig_digB _ (by omega), ih]
    simp only
    rw [show 16 * (b.toNat / 16) + b.toNat % 16 = b.toNat by omega, UInt8.ofNat_toNat]
theorem hex_unhex : ∀ (l r : List UInt8), unhexL l = some r → hexL r = l
  | [], r, h => by simp [unhexL] at h; subst h; rfl
  | [_], r, h => by simp [unhexL] at h
  | a :: b :: l, r, h => by
    unfold unhexL at h
    cases h1 : undig a with
    | none => rw [h1] at h; simp at h
    | some x =>
      cases h2 : undig b with
      | none => rw [h1, h2] at h; simp at h
      | some y =>
        cases h3 : unhexL l with
        | none => rw [h1, h2, h3] at h; simp at h
        | some q =>
          rw [h1, h2, h3] at h
          have h := Option.some.inj h
          subst h
          obtain ⟨x1, x2⟩ := digB_undig a x h1
          obtain ⟨y1, y2⟩ := digB_undig b y h2
          show digB ((UInt8.ofNat (16 * x + y)).toNat / 16) :: digB ((UInt8.ofNat (16 * x + y)).toNat % 16) :: hexL q = _
          have e : (UInt8.ofNat (16 * x + y)).toNat = 16 * x + y := by simp [UInt8.toNat_ofNat']; omega
          rw [e, show (16 * x + y) / 16 = x by omega, show (16 * x + y) % 16 = y by omega, x2, y2, hex_unhex l q h3]
/-- The bytes of the first 2k digits, and what is to come. -/
theorem unhex_step (a b : UInt8) (l : List UInt8) (x y : Nat) (hx : undig a = some x) (hy : undig b = some y) : unhexL (a :: b :: l) = (unhexL l).map (UInt8.ofNat (16 * x + y) :: ·) := by
  conv => lhs; unfold unhexL
  rw [hx, hy]
  cases unhexL l <;> rfl
theorem unhex_bad (a b : UInt8) (l : List UInt8) (h : undig a = none ∨ undig b = none) : unhexL (a :: b :: l) = none := by
  unfold unhexL
  rcases h with h | h
  · rw [h]
  · rw [h]; cases undig a <;> rfl
theorem unhex_odd : ∀ (l : List UInt8), l.length % 2 = 1 → unhexL l = none
  | [], h => by simp at h
  | [_], _ => rfl
  | a :: b :: l, h => by
    have ih := unhex_odd l (by simp at h; omega)
    unfold unhexL
    rw [ih]
    cases undig a <;> cases undig b <;> rfl
def hexB (s : ByteArray) : ByteArray := bytesB (hexL s.data.toList)
def unhexB (s : ByteArray) : ByteArray × Int := match unhexL s.data.toList with
  | some r => (bytesB r, 0)
  | none => (ByteArray.empty, 2)

def digits : ByteArray := ⟨#[48, 49, 50, 51, 52, 53, 54, 55, 56, 57, 97, 98, 99, 100, 101, 102]⟩
def hexP (s : ByteArray) (k : Nat) : List UInt8 := hexL (s.data.toList.take k)
theorem hexP_succ (s : ByteArray) (k : Nat) (h : k < s.size) : hexP s (k + 1) = hexP s k ++ [digB (s[k].toNat / 16), digB (s[k].toNat % 16)] := by
  unfold hexP
  have hl : k < s.data.toList.length := by simpa using h
  rw [List.take_succ_eq_append_getElem hl, hexL_append]
  rfl
theorem hexP_length (s : ByteArray) (k : Nat) (h : k ≤ s.size) : (hexP s k).length = 2 * k := by
  unfold hexP
  have hl : k ≤ s.data.toList.length := by simpa using h
  rw [hexL_length, List.length_take]
  omega
theorem hexP_all (s : ByteArray) : hexP s s.size = hexL s.data.toList := by
  unfold hexP
  have hl : s.size = s.data.toList.length := by simp
  rw [hl, List.take_length]

theorem dig_get (n : Nat) (h : n < 16) : (({ data := #[48, 49, 50, 51, 52, 53, 54, 55, 56, 57, 97, 98, 99, 100, 101, 102] } : ByteArray)[n]'h).toNat = (digB n).toNat := by
  have : ∀ n : Fin 16, (({ data := #[48, 49, 50, 51, 52, 53, 54, 55, 56, 57, 97, 98, 99, 100, 101, 102] } : ByteArray)[n.val]'n.isLt).toNat = (digB n.val).toNat := by decide +kernel
  exact this ⟨n, h⟩
theorem and15 (b : Nat) (h : b < 256) : bits BinOp.and IntKind.u8 (b : Int) 15 = (b : Int) % 16 := by
  have : ∀ b : Fin 256, bits BinOp.and IntKind.u8 (b.val : Int) 15 = (b.val : Int) % 16 := by decide +kernel
  exact this ⟨b, h⟩

set_option maxRecDepth 100000 in
set_option maxHeartbeats 2000000 in
theorem hex_any (s : ByteArray) (hs : s.size ≤ 1099511627776) (w : World) :
    Calls Try.prog 25 #[.string s] w fun e w' => e = .returned (.string (hexB s)) ∧ Below w.heap.size w w' := by
  obtain ⟨i0, hi, hz0, hz1, hz2⟩ := info_parts infoByte
  obtain ⟨n, hn⟩ : ∃ n, n = s.size := ⟨_, rfl⟩
  have HN := Lib.hid hn
  have hn40 : (s.size : Int) ≤ 1099511627776 := by omega
  have HB : Hid (hexB s = bytesB (hexP s n)) := by show _ = _; unfold hexB; rw [hn, hexP_all]
  rw [HB.out]
  clear hs hn
  go_enter Try.func25, Try.ntmps25
  go_wp2_with (at_make; refine wpList_make_own _ rfl _ _ 95 rfl w.heap.size 5 i0 (.int .u8 0) 1 Try.underlying95 hi hz0 hz1 .i64 .i64 _ (2 * n) rfl rfl ?b1 ?b2 ?b3 ?b4 ?_)
  case b1 => rw [HN.out]; push_cast; first | rfl | go_num
  case b2 => have := HN.out; rw [hz2]; omega
  case b3 => have := HN.out; unfold maxLen; omega
  case b4 => exact Nat.le_refl _
  intro w1 hown1 hgrow1
  have HOWN : Hid (w1.ownsRow w.heap.size 5 1 (.slice (some ⟨w.heap.size, 0, none⟩) 0 (2 * n)) 0 ((hexP s 0).map byteV)) := hown1
  have HBE : Hid (Below w.heap.size w w1) := (Below.refl _ _).grown hgrow1 (Nat.le_refl _) (fun q hq => by cases hq)
  clear hown1 hgrow1
  go_wp2_with fail
  go_loopw [3, 4, 11] (fun o _ i wr => ∃ k g c : Nat, (k : Int) ≤ (n : Int) ∧ i = .int .i64 (k : Int) ∧ o = .slice (some ⟨g, 0, none⟩) (2 * k) c ∧
      Hid (wr.ownsRow w.heap.size 5 1 (.slice (some ⟨g, 0, none⟩) (2 * k) c) (2 * k) ((hexP s k).map byteV)) ∧ Hid (Below w.heap.size w wr)) (fun _ _ i _ => n - (intOf i).toNat)
  case atStart => exact ⟨0, _, _, by omega, rfl, rfl, HOWN, HBE⟩
  case round =>
    clear HOWN HBE
    obtain ⟨k, g, c, hk, rfl, rfl, HOWN, HBE⟩ := hrel
    have hn2 : (s.size : Int) = (n : Int) := by rw [HN.out]
    by_cases hlt : (k : Int) < (n : Int)
    · have hks : (k : Int) < (s.size : Int) := by omega
      clear hn2 hlt
      have H := Lib.hid (hexP_succ s k (by have := HN.out; omega))
      obtain ⟨b, hb⟩ : ∃ b, s[k].toNat = b := ⟨_, rfl⟩
      have hb256 : b < 256 := by rw [← hb]; exact s[k].toNat_lt
      rw [hb] at H
      have hk0 : (0 : Int) ≤ (k : Int) := Int.natCast_nonneg _
      have hq0 : (0 : Int) ≤ (b : Int) / 16 := by omega
      have hq1 : (b : Int) / 16 < 16 := by omega
      have hr0 : (0 : Int) ≤ (b : Int) % 16 := by omega
      have hr1 : (b : Int) % 16 < 16 := by omega
      have hq2 : ((b : Int) / 16).toNat = b / 16 := by omega
      have hr2 : ((b : Int) % 16).toNat = b % 16 := by omega
      have hand : bits BinOp.and IntKind.u8 (b : Int) 15 = (b : Int) % 16 := and15 b hb256
      clear hb256
      go_wp2_with fail
      have hown := HOWN.out
      go_region_held3 (fun w' => True) (trivial)
        ((refine step_append_lies _ (by rfl) _ _ _ (by rfl) w.heap.size 5 i0 _ 1 1 Try.underlying95 hi hz0 hz1 hz2 rfl (by omega) _ (2 * k) _ (by rfl) ((hown.alloc _).drew)
            ⟨wr.heap.size, 0, none⟩ 2 2 _ (by rfl) (by rfl) (World.news_of_block (t := 5) (fr := (0, 0)) (heap_alloc_new wr _)) (by simp [Value.oneCell'])
            (by omega) (by have := HN.out; unfold maxLen; omega) (by have := HN.out; omega) (by have := HBE.out.size; simp; omega) (wr.heap.size + 1) (by simp) ?_; intro gg cap w2 hown1 hgrow hat hlt2))
      all_goals (
        have HBE2 : Hid (Below w.heap.size w w2) := ((HBE.out.alloc HBE.out.size _).drew).grown hgrow (by have := HBE.out.size; simp; omega) (fun q hq => (hown.lt q hq).1)
        have HOWN2 : Hid (w2.ownsRow w.heap.size 5 1 (.slice (some ⟨gg, 0, none⟩) (2 * (k + 1)) cap) (2 * (k + 1)) ((hexP s (k + 1)).map byteV)) := by
          rw [H.out, List.map_append, show 2 * (k + 1) = 2 * k + 2 by omega]
          rw [dig_get _ (by omega), dig_get _ (by omega)] at hown1
          exact hown1
        clear hown1 hgrow hat hlt2 HOWN HBE hown
        go_wp2_with fail
        go_roundw
        case rel => exact ⟨k + 1, gg, cap, by have := HN.out; omega, by go_num, by rw [show 2 * (k + 1) = 2 * k + 2 by omega], HOWN2, HBE2⟩
        case measure => have := HN.out; simp [intOf]; omega)
    · have hks : ¬ (k : Int) < (s.size : Int) := by omega
      obtain rfl : k = n := by omega
      clear hlt
      have hl : (hexP s k).length = 2 * k := hexP_length s k (by have := HN.out; omega)
      have hback := back_in wr g (2 * k) c _ (bytesIn_of_owns HOWN.out hl) hl
      clear hl HOWN
      go_wp2_with fail
      go_ret
      exact ⟨rfl, HBE.out⟩
end Go.Proofs.Ytbajgpbekanodaa
