/- The walks over the document's List, TakeList and Same: what each call returns. Conditions: the text is at most 2^42 bytes; what is laid takes at most 2^47 bytes. -/
import Derived.Test.YtcnnfbmfhjphfaaOctList
import Derived.BigQuiet
namespace Go.Proofs.Ytcnnfbmfhjphfaa
open Go.RowKit

set_option maxRecDepth 100000 in
set_option maxHeartbeats 1000000 in
theorem refTakeList_any (s : ByteArray) (p : Int) (w : World) (hs : s.size ≤ 4398046511104) :
    Calls Try.prog 31 #[.string s, .int .i64 p] w (ListOut w (Oct.tlB s p)) := by
  have hs' : s.size ≤ maxLen := by unfold maxLen; omega
  have C1 := Lib.hid (fun w => refTake_any s p w hs')
  have C2 := Lib.hid (fun (q : Nat) w => refTakeText_any s (q : Int) w hs')
  obtain ⟨i0, hi, hz0, hz1, hz2⟩ := info_parts infoStr
  have hle := Oct.tnB_le s p
  obtain ⟨R, hR⟩ : ∃ R, R = Oct.tlB s p := ⟨_, rfl⟩
  rw [← hR]
  unfold Oct.tlB at hR
  generalize Oct.tnB s p = x at *
  obtain ⟨n, q, e⟩ := x
  unfold trip at C1
  simp only at C1 hR hle
  by_cases he : (e : Int) = 0
  · obtain rfl : e = 0 := by omega
    rw [if_neg (by simp)] at hR
    have HT0 : ∀ w1, Below w.heap.size w w1 → Hid (Taking s w R (n - 0) q [] (.slice none 0 0) w1) := fun w1 hb => ⟨World.ownsRow_nil _ _ _ _, hb, hR.symm, hle.1, by simp, by simp, hle.2⟩
    have HS := Lib.hid hs
    clear hR hle hs hs'
    go_enter Try.func31, Try.ntmps31
    go_wp2_with fail
    refine (C1.out _).mono ?_
    rintro e w1 ⟨rfl, hb1⟩
    have HT := HT0 w1 hb1
    clear C1 HT0
    go_wp2_with fail
    go_loopw [1, 9] (fun at_ v wr => ∃ (q : Nat) (acc : List ByteArray) (ao : Option Addr) (cap L : Nat), at_ = .int .i64 (q : Int) ∧ v = .slice ao L cap ∧ (L : Int) ≤ (n : Int) ∧ Hid (L = acc.length) ∧ Hid (Taking s w R (n - L) q acc (.slice ao L cap) wr)) (fun _ v _ => n - (match v with | .slice _ l _ => l | _ => 0))
    case atStart => exact ⟨q, [], none, 0, 0, rfl, rfl, by omega, rfl, HT⟩
    case round =>
      clear HT
      obtain ⟨q, acc, ao, cap, L, rfl, rfl, hLn, hLe, HT⟩ := hrel
      have hL42 : (L : Int) ≤ 4398046511104 := by
        have h1 := HT.out.few
        have h2 := HT.out.inside
        have h3 := HS.out
        have h4 := hLe.out
        omega
      by_cases hlt : (L : Int) < (n : Int)
      · obtain ⟨k, hk⟩ : ∃ k, n - L = k + 1 := ⟨n - L - 1, by omega⟩
        rw [hk] at HT
        have HK := Lib.hid hk
        obtain ⟨x, hx⟩ : ∃ x, Oct.ttB s (q : Int) = x := ⟨_, rfl⟩
        obtain ⟨t, q', e⟩ := x
        have st := HT.out.step hx
        have hC := C2.out q wr
        rw [hx] at hC
        unfold tripT at hC
        have HC := Lib.hid hC
        clear hx hC hk
        by_cases he2 : (e : Int) = 0
        · obtain rfl : e = 0 := by omega
          have hst := Lib.hid (st.2 rfl)
          have hown := HT.out.owns
          rw [← hLe.out] at hown
          have hlen : (L + 1) * 16 ≤ 140737488355328 ∧ L + 1 ≤ maxLen := by
            unfold maxLen
            omega
          have HL := Lib.hid hlen
          clear st hlen
          go_wp2_with fail
          refine HC.out.mono ?_
          rintro e w2 ⟨rfl, hb2⟩
          have hown2 := owns_kept hown hb2 (Nat.le_refl _)
          have hsz : w.heap.size ≤ w2.heap.size := by have h1 := HT.out.below.size; have h2 := hb2.size; omega
          clear hown
          go_wp2_with (at_builtin; refine wpList_append_own _ rfl _ _ 22 rfl w.heap.size 9 i0 (.string ByteArray.empty) 1 16 Try.underlying22 hi hz0 hz1 hz2 rfl (by decide) _ L _ rfl (hown2.alloc _) ⟨w2.heap.size, 0, none⟩ 1 1 [.string t] rfl rfl (cell_one_new _ _ _) ?c1 ?c2 ?c3 ?c4 ?_)
          case c1 => intro u hu; simp at hu; subst hu; rfl
          case c2 => exact HL.out.2
          case c3 => exact HL.out.1
          case c4 => simp; omega
          intro v' w3 hown3 hgrow _
          obtain ⟨g, cap', rfl⟩ := own_form hown3
          have hown4 := hown3
          rw [hLe.out] at hown4
          have HT2 := Lib.hid (HT.out.next hb2 hst.out HS.out hown4 hgrow)
          have HL2 : Hid (L + 1 = (acc ++ [t]).length) := by show _ = _; simp [hLe.out]
          have HT3 : Hid (Taking s w R (n - (L + 1)) q' (acc ++ [t]) (.slice (some ⟨g, 0, none⟩) (L + 1) cap') w3) := by
            have e1 : n - (L + 1) = k := by have := HK.out; omega
            rw [e1, hLe.out]
            exact HT2.out
          clear hown2 hown3 hown4 hgrow HT2
          go_wp2_with fail
          go_roundw
          case rel => exact ⟨q', acc ++ [t], some ⟨g, 0, none⟩, cap', L + 1, rfl, by go_num, by omega, HL2, HT3⟩
          case measure => simp; omega
        · have hst := Lib.hid (st.1 (by omega))
          clear st
          go_wp2_with fail
          refine HC.out.mono ?_
          rintro e w2 ⟨rfl, hb2⟩
          go_wp2_with fail
          go_ret3
          rw [hst.out]
          exact listOut_none w w2 e (HT.out.below.trans (hb2.mono HT.out.below.size))
      · have e0 : n - L = 0 := by omega
        rw [e0] at HT
        clear e0
        go_wp2_with fail
        go_ret3
        exact HT.out.done
  · rw [if_pos (by simp; omega)] at hR
    have HR := Lib.hid hR
    clear hR hle hs hs'
    go_enter Try.func31, Try.ntmps31
    go_wp2_with fail
    refine (C1.out _).mono ?_
    rintro e w1 ⟨rfl, hb1⟩
    go_wp2_with fail
    go_ret3
    rw [HR.out]
    exact listOut_none w w1 e hb1

set_option maxRecDepth 100000 in
set_option maxHeartbeats 1000000 in
theorem refList_any (ao : Option Addr) (cap : Nat) (ss : List ByteArray) (w : World) (hf : StrsFit ss cap) (hc : StrsAt w ao ss) (hle : (Oct.listB ss).size ≤ 140737488355328) :
    Calls Try.prog 33 #[.slice ao ss.length cap] w fun e w' => e = .returned (.string (Oct.listB ss)) ∧ Below w.heap.size w w' := by
  have hm : (ss.length : Int) ≤ 9223372036854775807 := by have h1 := hf.1; have h2 := hf.2.1; unfold maxLen at h2; omega
  obtain ⟨n, hn⟩ : ∃ n, n = ss.length := ⟨_, rfl⟩
  have HN := Lib.hid hn
  have HC := Lib.hid hc
  have HLE := Lib.hid hle
  have hnum := fun w => refNumber_any n (by omega) w
  have HNUM := Lib.hid hnum
  rw [← hn] at hm ⊢
  clear hn hc hf hle hnum
  go_enter Try.func33, Try.ntmps33
  go_wp2_with fail
  refine (HNUM.out _).mono ?_
  rintro e w1 ⟨rfl, hb1⟩
  clear HNUM
  go_wp2_with fail
  go_loopw [3, 4] (fun o i wr => ∃ k : Nat, (k : Int) ≤ (n : Int) ∧ i = .int .i64 (k : Int) ∧ o = .string (listP ss k) ∧ Below w.heap.size w wr) (fun _ i _ => n - (intOf i).toNat)
  case atStart => exact ⟨0, by omega, rfl, by simp [listP, HN.out], hb1⟩
  case round =>
    obtain ⟨k, hk, rfl, rfl, hbel⟩ := hrel
    by_cases hlt : (k : Int) < (n : Int)
    · have hkl : k < ss.length := by rw [← HN.out]; omega
      obtain ⟨b, off, rfl, hbl, hcell0⟩ := HC.out k hkl
      have hcell := (hbel.cell (p := ⟨b, off + k, none⟩) hbl).trans hcell0
      have hsum := text_le ss k hkl
      have hall := HLE.out
      have HS := Lib.hid (listP_succ ss k hkl)
      generalize ss.getD k ByteArray.empty = s at *
      have htx : s.size ≤ (Oct.textB s).size := by unfold Oct.textB; rw [ByteArray.size_append]; omega
      have HT := Lib.hid (refText_any s (by omega))
      have hcat : ((listP ss k).size : Int) + ((Oct.textB s).size : Int) ≤ 9223372036854775807 := by omega
      clear hsum hall htx hcell0 hkl
      go_wp2_with fail
      refine (HT.out _).mono ?_
      rintro e w3 ⟨rfl, hb3⟩
      have hbel3 := hbel.trans (hb3.mono hbel.size)
      clear hb3 hbel hcell
      go_wp2_with fail
      go_roundw
      case rel => exact ⟨k + 1, by omega, by go_num, by rw [HS.out], hbel3⟩
      case measure => simp [intOf]; omega
    · obtain rfl : k = n := by omega
      have HE : Hid (listP ss k = Oct.listB ss) := by show _ = _; rw [HN.out, listP_all]
      go_wp2_with fail
      go_ret
      exact ⟨by rw [← HE.out]; rfl, hbel⟩

set_option maxRecDepth 100000 in
set_option maxHeartbeats 1000000 in
theorem same_yes (ao bo : Option Addr) (ca cb : Nat) (ss : List ByteArray) (w : World) (hf : StrsFit ss ca) (ha : StrsAt w ao ss) (hb : StrsAt w bo ss) :
    Calls Try.prog 34 #[.slice ao ss.length ca, .slice bo ss.length cb] w fun e w' => e = .returned (.bool true) ∧ Below w.heap.size w w' := by
  have hm : (ss.length : Int) ≤ 9223372036854775807 := by have h1 := hf.1; have h2 := hf.2.1; unfold maxLen at h2; omega
  obtain ⟨n, hn⟩ : ∃ n, n = ss.length := ⟨_, rfl⟩
  have HN := Lib.hid hn
  have HA := Lib.hid ha
  have HB := Lib.hid hb
  rw [← hn] at hm ⊢
  clear hn ha hb hf
  go_enter Try.func34, Try.ntmps34
  go_wp2_with fail
  go_loopw [5] (fun i wr => ∃ k : Nat, (k : Int) ≤ (n : Int) ∧ i = .int .i64 (k : Int) ∧ Below w.heap.size w wr) (fun i _ => n - (intOf i).toNat)
  case atStart => exact ⟨0, by omega, rfl, Below.refl _ _⟩
  case round =>
    obtain ⟨k, hk, rfl, hbel⟩ := hrel
    by_cases hlt : (k : Int) < (n : Int)
    · have hkl : k < ss.length := by rw [← HN.out]; omega
      obtain ⟨b, off, rfl, hbl, hcell0⟩ := HA.out k hkl
      obtain ⟨b2, off2, rfl, hbl2, hcell2⟩ := HB.out k hkl
      have hcell := (hbel.cell (p := ⟨b, off + k, none⟩) hbl).trans hcell0
      have hcellb := (hbel.cell (p := ⟨b2, off2 + k, none⟩) hbl2).trans hcell2
      generalize ss.getD k ByteArray.empty = s at *
      clear hcell0 hcell2 hkl
      go_wp2_with fail
      go_quiet (fail)
      go_wp2_with fail
      go_roundw
      case rel => exact ⟨k + 1, by omega, by go_num, Below.drewN hbel _⟩
      case measure => simp [intOf]; omega
    · obtain rfl : k = n := by omega
      go_wp2_with fail
      go_ret
      exact ⟨rfl, hbel⟩
end Go.Proofs.Ytcnnfbmfhjphfaa
