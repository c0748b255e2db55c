/- The walks over the document's digit, Hex and Unhex. -/
import Derived.Test.YtbajgpbekanodaaDigUnhex
namespace Go.Proofs.Ytbajgpbekanodaa
open Go.RowKit

/-- What the document's digit tells. -/
def digN (c : Nat) : Int := match undig (UInt8.ofNat c) with
  | some n => (n : Int)
  | none => 16
theorem digN_eq (c : Nat) (h : c < 256) : digN c = if 48 ≤ c ∧ c ≤ 57 then (c : Int) - 48 else if 97 ≤ c ∧ c ≤ 102 then (c : Int) - 87 else 16 := by
  have : ∀ c : Fin 256, digN c.val = if 48 ≤ c.val ∧ c.val ≤ 57 then (c.val : Int) - 48 else if 97 ≤ c.val ∧ c.val ≤ 102 then (c.val : Int) - 87 else 16 := by decide +kernel
  exact this ⟨c, h⟩
theorem digN_some (c : UInt8) (n : Nat) (h : undig c = some n) : digN c.toNat = (n : Int) := by
  unfold digN
  rw [UInt8.ofNat_toNat, h]
theorem digN_none (c : UInt8) (h : undig c = none) : digN c.toNat = 16 := by
  unfold digN
  rw [UInt8.ofNat_toNat, h]

set_option maxRecDepth 100000 in
set_option maxHeartbeats 2000000 in
theorem digit_any (c : Nat) (h : c < 256) (w : World) :
    Calls Try.prog 61 #[.int .u8 (c : Int)] w fun e w' => e = .returned (.int .i64 (digN c)) ∧ w' = w := by
  rw [digN_eq c h]
  have hc0 : (0 : Int) ≤ (c : Int) := Int.natCast_nonneg _
  have hc1 : (c : Int) < 256 := by omega
  clear h
  by_cases h1 : (48 : Int) ≤ (c : Int)
  · by_cases h2 : (c : Int) ≤ 57
    · rw [if_pos (by omega)]
      have q1 : IntKind.u8.wrap ((c : Int) - 48) = (c : Int) - 48 := IntWalk.u8_in _ ⟨by omega, by omega⟩
      have q2 : IntKind.i64.wrap ((c : Int) - 48) = (c : Int) - 48 := IntWalk.i64_in _ ⟨by omega, by omega⟩
      go_enter Try.func61, Try.ntmps61
      go_wp2_with fail
      go_ret
      exact ⟨rfl, rfl⟩
    · rw [if_neg (by omega)]
      by_cases h3 : (97 : Int) ≤ (c : Int)
      · by_cases h4 : (c : Int) ≤ 102
        · rw [if_pos (by omega)]
          have q1 : IntKind.u8.wrap ((c : Int) - 97) = (c : Int) - 97 := IntWalk.u8_in _ ⟨by omega, by omega⟩
          have q2 : IntKind.i64.wrap ((c : Int) - 97) = (c : Int) - 97 := IntWalk.i64_in _ ⟨by omega, by omega⟩
          have q3 : IntKind.i64.wrap ((c : Int) - 97 + 10) = (c : Int) - 87 := by rw [show (c : Int) - 97 + 10 = (c : Int) - 87 by omega]; exact IntWalk.i64_in _ ⟨by omega, by omega⟩
          go_enter Try.func61, Try.ntmps61
          go_wp2_with fail
          go_ret
          exact ⟨rfl, rfl⟩
        · rw [if_neg (by omega)]
          go_enter Try.func61, Try.ntmps61
          go_wp2_with fail
          go_ret
          exact ⟨rfl, rfl⟩
      · rw [if_neg (by omega)]
        go_enter Try.func61, Try.ntmps61
        go_wp2_with fail
        go_ret
        exact ⟨rfl, rfl⟩
  · rw [if_neg (by omega), if_neg (by omega)]
    have h3 : ¬ (97 : Int) ≤ (c : Int) := by omega
    go_enter Try.func61, Try.ntmps61
    go_wp2_with fail
    go_ret
    exact ⟨rfl, rfl⟩

/-! ### Hex -/
def hexQ (s : ByteArray) (k q r j : Nat) : List UInt8 := hexP s k ++ [digB q, digB r].take j

set_option maxRecDepth 100000 in
set_option maxHeartbeats 4000000 in
theorem refHex_any (s : ByteArray) (hs : s.size ≤ 1099511627776) (w : World) :
    Calls Try.prog 26 #[.string s] w fun e w' => e = .returned (.string (hexB s)) ∧ Below w.heap.size w w' := by
  obtain ⟨i0, hi, hz0, hz1, hz2⟩ := info_parts infoByte
  obtain ⟨n, hn⟩ : ∃ n, n = s.size := ⟨_, rfl⟩
  have HN := Lib.hid hn
  have hn40 : (s.size : Int) ≤ 1099511627776 := by omega
  have HB : Hid (hexB s = bytesB (hexP s n)) := by show _ = _; unfold hexB; rw [hn, hexP_all]
  rw [HB.out]
  clear hs hn
  go_enter Try.func26, Try.ntmps26
  go_wp2_with fail
  go_loopw [3, 4] (fun o i wr => ∃ (k c : Nat) (ao : Option Addr), (k : Int) ≤ (n : Int) ∧ i = .int .i64 (k : Int) ∧ o = .slice ao (2 * k) c ∧
      Hid (wr.ownsRow w.heap.size 5 1 (.slice ao (2 * k) c) (2 * k) ((hexP s k).map byteV)) ∧ Hid (Below w.heap.size w wr)) (fun _ i _ => n - (intOf i).toNat)
  case atStart => exact ⟨0, 0, none, by omega, rfl, rfl, World.ownsRow_nil _ _ _ _, Below.refl _ _⟩
  case round =>
    obtain ⟨k, c, ao, hk, rfl, rfl, HOWN, HBE⟩ := hrel
    have hn2 : (s.size : Int) = (n : Int) := by rw [HN.out]
    by_cases hlt : (k : Int) < (n : Int)
    · have hks : (k : Int) < (s.size : Int) := by omega
      clear hn2 hlt
      have H := Lib.hid (hexP_succ s k (by have := HN.out; omega))
      obtain ⟨b, hb⟩ : ∃ b, s[k].toNat = b := ⟨_, rfl⟩
      have hb256 : b < 256 := by rw [← hb]; exact s[k].toNat_lt
      have hk0 : (0 : Int) ≤ (k : Int) := Int.natCast_nonneg _
      obtain ⟨q, hq⟩ : ∃ q, q = b / 16 := ⟨_, rfl⟩
      obtain ⟨r, hr⟩ : ∃ r, r = b % 16 := ⟨_, rfl⟩
      rw [hb, ← hq, ← hr] at H
      have e1 : IntKind.u8.wrap ((s[k].toNat : Int) / 16) = (q : Int) := by rw [hb, show (b : Int) / 16 = (q : Int) by omega]; exact IntWalk.u8_in _ ⟨by omega, by omega⟩
      have e4 : ((s[k].toNat : Int)).tmod 16 = (r : Int) := by rw [hb, Int.tmod_eq_emod_of_nonneg (by omega)]; omega
      have hq1 : q < 16 := by omega
      have hr1 : r < 16 := by omega
      clear hb hq hr hb256
      go_wp2_with fail
      go_region_held3 (fun w' => True) (trivial) (fail)
      all_goals (
        have hc0 : ((wr.alloc (.cells #[.int .u8 (q : Int), .int .u8 (r : Int)] 5)).drew).cell? ⟨wr.heap.size, 0, none⟩ = some (.int .u8 (q : Int)) := cells_new wr [.int .u8 (q : Int), .int .u8 (r : Int)] _ 0 _ rfl
        have hc1 : ((wr.alloc (.cells #[.int .u8 (q : Int), .int .u8 (r : Int)] 5)).drew).cell? ⟨wr.heap.size, 1, none⟩ = some (.int .u8 (r : Int)) := cells_new wr [.int .u8 (q : Int), .int .u8 (r : Int)] _ 1 _ rfl
        have HOWN1 : Hid (((wr.alloc (.cells #[.int .u8 (q : Int), .int .u8 (r : Int)] 5)).drew).ownsRow w.heap.size 5 1 (.slice ao (2 * k) c) (2 * k) ((hexQ s k q r 0).map byteV)) := by
          show World.ownsRow _ _ _ _ _ _ _
          have e : hexQ s k q r 0 = hexP s k := by simp [hexQ]
          rw [e]
          exact (HOWN.out.alloc _).drew
        have HBE1 : Hid (Below w.heap.size w ((wr.alloc (.cells #[.int .u8 (q : Int), .int .u8 (r : Int)] 5)).drew)) := (HBE.out.alloc HBE.out.size _).drew
        have HNE : Hid (∀ g, (Value.slice ao (2 * k) c).ownBlock = some g → g ≠ wr.heap.size) := fun g hg => by have := (HOWN.out.lt g hg).2; omega
        have HG : Hid (w.heap.size ≤ wr.heap.size) := HBE.out.size
        clear HOWN HBE
        generalize (wr.alloc (.cells #[.int .u8 (q : Int), .int .u8 (r : Int)] 5)).drew = wd at *
        generalize wr.heap.size = G at *
        go_wp2_with fail
        go_loopw [3, 23] (fun o i wr => ∃ (j c : Nat) (ao : Option Addr), (j : Int) ≤ 2 ∧ i = .int .i64 (j : Int) ∧ o = .slice ao (2 * k + j) c ∧
            Hid (wr.ownsRow w.heap.size 5 1 (.slice ao (2 * k + j) c) (2 * k + j) ((hexQ s k q r j).map byteV)) ∧ Hid (Below w.heap.size w wr) ∧ Hid (∀ g, (Value.slice ao (2 * k + j) c).ownBlock = some g → g ≠ G) ∧
            Hid (wr.cell? ⟨G, 0, none⟩ = some (.int .u8 (q : Int))) ∧ Hid (wr.cell? ⟨G, 1, none⟩ = some (.int .u8 (r : Int)))) (fun _ i _ => 2 - (intOf i).toNat)
        case atStart => exact ⟨0, c, ao, by omega, rfl, rfl, HOWN1, HBE1, HNE, hc0, hc1⟩
        case round =>
          clear HOWN1 HBE1 HNE hc0 hc1
          obtain ⟨j, c1, a1, hj, rfl, rfl, HOWN1, HBE1, HNE, HC0, HC1⟩ := hrel
          by_cases hlt : (j : Int) < 2
          · obtain ⟨d, hd16, hcell, hsucc⟩ : ∃ d : Nat, (d : Int) < 16 ∧ wr.cell? ⟨G, j, none⟩ = some (.int .u8 (d : Int)) ∧ hexQ s k q r (j + 1) = hexQ s k q r j ++ [digB d] := by
              have : j = 0 ∨ j = 1 := by omega
              rcases this with rfl | rfl
              · exact ⟨q, by omega, HC0.out, by simp [hexQ]⟩
              · exact ⟨r, by omega, HC1.out, by simp [hexQ]⟩
            have HSU := Lib.hid hsucc
            have hj0 : (0 : Int) ≤ (j : Int) := Int.natCast_nonneg _
            have hd0 : (0 : Int) ≤ (d : Int) := Int.natCast_nonneg _
            have hown := HOWN1.out
            clear hsucc
            by_cases hd10 : (d : Int) < 10
            · have q1 : IntKind.u8.wrap (48 + (d : Int)) = 48 + (d : Int) := IntWalk.u8_in _ ⟨by omega, by omega⟩
              have hbv : byteV (digB d) = .int .u8 (48 + (d : Int)) := by
                unfold byteV digB
                rw [if_pos (by omega), UInt8.toNat_ofNat', show (48 + d) % 2 ^ 8 = 48 + d by omega]
                push_cast; rfl
              go_wp2_with (at_builtin; refine wpList_append_lies _ rfl _ _ 95 rfl w.heap.size 5 i0 (.int .u8 0) 1 1 Try.underlying95 hi hz0 hz1 hz2 rfl (by decide) _ (2 * k + j) _ rfl (hown.alloc _) ⟨wr.heap.size, 0, none⟩ 1 1 [byteV (digB d)] rfl rfl (by rw [hbv]; exact cells_new _ [_] _) (by intro u hu; simp at hu; subst hu; rfl) (by decide) (by have := HN.out; unfold maxLen; omega) (by have := HN.out; omega) (by have := HBE1.out.size; simp; omega) (wr.heap.size + 1) (by simp) ?_)
              intro gg cap w3 hown3 hgrow hat _
              have HBE3 : Hid (Below w.heap.size w w3) := (HBE1.out.alloc HBE1.out.size _).grown hgrow (by have := HBE1.out.size; simp; omega) (fun g hg => (hown.lt g hg).1)
              have HOWN3 : Hid (w3.ownsRow w.heap.size 5 1 (.slice (some ⟨gg, 0, none⟩) (2 * k + (j + 1)) cap) (2 * k + (j + 1)) ((hexQ s k q r (j + 1)).map byteV)) := by
                rw [HSU.out, List.map_append]
                show World.ownsRow _ _ _ _ _ _ _
                simp only [List.map_cons, List.map_nil, hbv]
                exact hown3
              have hGl := World.block_lt_of_cell? _ _ HC0.out
              have hGne : ∀ g, (Value.slice a1 (2 * k + j) c1).ownBlock = some g → g ≠ G := HNE.out
              have HNE3 : Hid (∀ g, (Value.slice (some ⟨gg, 0, none⟩) (2 * k + (j + 1)) cap).ownBlock = some g → g ≠ G) := fun g hg => by
                have : gg = g := by simpa [Value.ownBlock] using hg
                subst this
                rcases hat with h | h
                · exact hGne gg h
                · simp only at hGl; omega
              have hrow : some G ≠ (Value.slice a1 (2 * k + j) c1).ownBlock := fun h => hGne G h.symm rfl
              have HC03 : Hid (w3.cell? ⟨G, 0, none⟩ = some (.int .u8 (q : Int))) := hgrow.cell ((World.cell?_alloc_past _ _ _ hGl).trans HC0.out) hrow
              have HC13 : Hid (w3.cell? ⟨G, 1, none⟩ = some (.int .u8 (r : Int))) := hgrow.cell ((World.cell?_alloc_past _ _ _ hGl).trans HC1.out) hrow
              clear hown3 hown hgrow hat HOWN1 HBE1 HC0 HC1 HNE hcell hGl hGne hrow
              go_wp2_with fail
              go_roundw
              case rel => exact ⟨j + 1, cap, _, by omega, by go_num, rfl, HOWN3, HBE3, HNE3, HC03, HC13⟩
              case measure => simp [intOf]; omega
            · have q1 : IntKind.u8.wrap (97 + (d : Int)) = 97 + (d : Int) := IntWalk.u8_in _ ⟨by omega, by omega⟩
              have q2 : IntKind.u8.wrap (97 + (d : Int) - 10) = 87 + (d : Int) := by rw [show 97 + (d : Int) - 10 = 87 + (d : Int) by omega]; exact IntWalk.u8_in _ ⟨by omega, by omega⟩
              have hbv : byteV (digB d) = .int .u8 (87 + (d : Int)) := by
                unfold byteV digB
                rw [if_neg (by omega), UInt8.toNat_ofNat', show (87 + d) % 2 ^ 8 = 87 + d by omega]
                push_cast; rfl
              go_wp2_with (at_builtin; refine wpList_append_lies _ rfl _ _ 95 rfl w.heap.size 5 i0 (.int .u8 0) 1 1 Try.underlying95 hi hz0 hz1 hz2 rfl (by decide) _ (2 * k + j) _ rfl (hown.alloc _) ⟨wr.heap.size, 0, none⟩ 1 1 [byteV (digB d)] rfl rfl (by rw [hbv]; exact cells_new _ [_] _) (by intro u hu; simp at hu; subst hu; rfl) (by decide) (by have := HN.out; unfold maxLen; omega) (by have := HN.out; omega) (by have := HBE1.out.size; simp; omega) (wr.heap.size + 1) (by simp) ?_)
              intro gg cap w3 hown3 hgrow hat _
              have HBE3 : Hid (Below w.heap.size w w3) := (HBE1.out.alloc HBE1.out.size _).grown hgrow (by have := HBE1.out.size; simp; omega) (fun g hg => (hown.lt g hg).1)
              have HOWN3 : Hid (w3.ownsRow w.heap.size 5 1 (.slice (some ⟨gg, 0, none⟩) (2 * k + (j + 1)) cap) (2 * k + (j + 1)) ((hexQ s k q r (j + 1)).map byteV)) := by
                rw [HSU.out, List.map_append]
                show World.ownsRow _ _ _ _ _ _ _
                simp only [List.map_cons, List.map_nil, hbv]
                exact hown3
              have hGl := World.block_lt_of_cell? _ _ HC0.out
              have hGne : ∀ g, (Value.slice a1 (2 * k + j) c1).ownBlock = some g → g ≠ G := HNE.out
              have HNE3 : Hid (∀ g, (Value.slice (some ⟨gg, 0, none⟩) (2 * k + (j + 1)) cap).ownBlock = some g → g ≠ G) := fun g hg => by
                have : gg = g := by simpa [Value.ownBlock] using hg
                subst this
                rcases hat with h | h
                · exact hGne gg h
                · simp only at hGl; omega
              have hrow : some G ≠ (Value.slice a1 (2 * k + j) c1).ownBlock := fun h => hGne G h.symm rfl
              have HC03 : Hid (w3.cell? ⟨G, 0, none⟩ = some (.int .u8 (q : Int))) := hgrow.cell ((World.cell?_alloc_past _ _ _ hGl).trans HC0.out) hrow
              have HC13 : Hid (w3.cell? ⟨G, 1, none⟩ = some (.int .u8 (r : Int))) := hgrow.cell ((World.cell?_alloc_past _ _ _ hGl).trans HC1.out) hrow
              clear hown3 hown hgrow hat HOWN1 HBE1 HC0 HC1 HNE hcell hGl hGne hrow
              go_wp2_with fail
              go_roundw
              case rel => exact ⟨j + 1, cap, _, by omega, by go_num, rfl, HOWN3, HBE3, HNE3, HC03, HC13⟩
              case measure => simp [intOf]; omega
          · obtain rfl : j = 2 := by omega
            have HOWN2 : Hid (wr.ownsRow w.heap.size 5 1 (.slice a1 (2 * (k + 1)) c1) (2 * (k + 1)) ((hexP s (k + 1)).map byteV)) := by
              have e : hexQ s k q r 2 = hexP s (k + 1) := by rw [H.out]; rfl
              rw [← e]; exact HOWN1.out
            clear HOWN1 HC0 HC1 HNE
            go_wp2_with fail
            go_roundw
            case rel => exact ⟨k + 1, c1, a1, by have := HN.out; omega, by go_num, by rw [show 2 * (k + 1) = 2 * k + 2 by omega], HOWN2, HBE1⟩
            case measure => have := HN.out; simp [intOf]; omega)
    · have hks : ¬ (k : Int) < (s.size : Int) := by omega
      obtain rfl : k = n := by omega
      clear hlt
      have hl : (hexP s k).length = 2 * k := hexP_length s k (by have := HN.out; omega)
      rcases HOWN.out.2 with ⟨hv, hz⟩ | ⟨g, cap, cur, hv, _⟩
      · obtain rfl : k = 0 := by omega
        injection hv with a1 a2 a3
        subst a1 a3
        have hs0 : ¬ (0 : Int) < (s.size : Int) := by simpa using hks
        have hcv : ∀ w, (convert 95 9 (.slice none 0 0)).run Try.prog w = .ok (.string ByteArray.empty) w := fun _ => by kernel_rfl
        clear hl HOWN a2 hz hks
        go_wp2_with fail
        go_ret
        exact ⟨rfl, HBE.out⟩
      · injection hv with a1 a2 a3
        subst a1 a3
        have hback := back_in wr g (2 * k) c _ (bytesIn_of_owns HOWN.out hl) hl
        clear hl HOWN
        go_wp2_with fail
        go_ret
        exact ⟨rfl, HBE.out⟩
end Go.Proofs.Ytbajgpbekanodaa
