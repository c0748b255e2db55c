/- The walk over octets.TakeList once more: a long text, but a short list. Conditions: the text is at most maxLen bytes, the list's count at most 2^42. -/
import Derived.Test.YtcnnfbmfhjphfaaOctList
namespace Go.Proofs.Ytcnnfbmfhjphfaa
open Go.RowKit

theorem Taking.next2 {s : ByteArray} {w : World} {R : List ByteArray × Nat × Nat} {k q q' : Nat} {acc : List ByteArray} {v v' : Value} {wr w1 w2 : World} {t : ByteArray} {o : Obj}
    (h : Taking s w R (k + 1) q acc v wr) (hb : Below wr.heap.size wr w1) (ht : Oct.tlF s k q' (acc ++ [t]) = R ∧ q' ≤ s.size ∧ q < q' ∧ t.size ≤ s.size) (hs : s.size ≤ maxLen)
    (hown : w2.ownsRow w.heap.size 9 1 v' (acc.length + 1) (acc.map Value.string ++ [.string t])) (hg : (w1.alloc o).grownBy w2 v.ownBlock) : Taking s w R k q' (acc ++ [t]) v' w2 := by
  have h1 := h.below.trans (hb.mono h.below.size)
  refine ⟨by simpa using hown, ?_, ht.1, ht.2.1, ?_, ?_, ?_⟩
  · refine (h1.alloc h1.size o).grown hg ?_ (fun g hg => (h.owns.lt g hg).1)
    have := h1.size
    simp; omega
  · have := h.few; simp; omega
  · intro x hx
    rcases List.mem_append.1 hx with hx | hx
    · exact h.fit x hx
    · simp at hx; subst hx; have := ht.2.2.2; omega
  · have := h.okU; unfold OkU at *; omega

set_option maxRecDepth 100000 in
set_option maxHeartbeats 1000000 in
theorem takeList_few (s : ByteArray) (p : Int) (w : World) (hs : s.size ≤ maxLen) (hcnt : (Oct.tnB s p).1 ≤ 4398046511104) :
    Calls Try.prog 30 #[.string s, .int .i64 p] w (ListOut w (Oct.tlB s p)) := by
  have hs' := hs
  have C1 := Lib.hid (fun w => takeNumber_any s p w hs')
  have C2 := Lib.hid (fun (q : Nat) w => takeText_any s (q : Int) w hs')
  obtain ⟨i0, hi, hz0, hz1, hz2⟩ := info_parts infoStr
  have hle := Oct.tnB_le s p
  obtain ⟨R, hR⟩ : ∃ R, R = Oct.tlB s p := ⟨_, rfl⟩
  rw [← hR]
  unfold Oct.tlB at hR
  generalize Oct.tnB s p = x at *
  obtain ⟨n, q, e⟩ := x
  unfold trip at C1
  simp only at C1 hR hle hcnt
  by_cases he : (e : Int) = 0
  · obtain rfl : e = 0 := by omega
    rw [if_neg (by simp)] at hR
    have HT0 : ∀ w1, Below w.heap.size w w1 → Hid (Taking s w R n q [] (.slice none 0 0) w1) := fun w1 hb => ⟨World.ownsRow_nil _ _ _ _, hb, hR.symm, hle.1, by simp, by simp, hle.2⟩
    have HS := Lib.hid hs
    have HM := Lib.hid hcnt
    clear hR hle hs hs' hcnt
    go_enter Try.func30, Try.ntmps30
    go_wp2_with fail
    refine (C1.out _).mono ?_
    rintro e w1 ⟨rfl, hb1⟩
    have HT := HT0 w1 hb1
    clear C1 HT0
    go_wp2_with fail
    go_loopw [1, 7, 9] (fun at_ m v wr => ∃ (k q : Nat) (acc : List ByteArray), at_ = .int .i64 (q : Int) ∧ m = .int .u64 (k : Int) ∧ Hid (acc.length + k = n) ∧ Hid (Taking s w R k q acc v wr)) (fun _ m _ _ => (intOf m).toNat)
    case atStart => exact ⟨n, q, [], rfl, rfl, Nat.zero_add n, HT⟩
    case round =>
      clear HT
      obtain ⟨k, q, acc, rfl, rfl, HK, HT⟩ := hrel
      rcases k with _ | k
      · go_wp2_with fail
        go_ret3
        exact HT.out.done
      · obtain ⟨x, hx⟩ : ∃ x, Oct.ttB s (q : Int) = x := ⟨_, rfl⟩
        obtain ⟨t, q', e⟩ := x
        have st := HT.out.step hx
        have hC := C2.out q wr
        rw [hx] at hC
        unfold tripT at hC
        have HC := Lib.hid hC
        have hw : IntKind.u64.wrap (k : Int) = (k : Int) := Oct.wrap_small (by have := HT.out.okU; unfold OkU at this; omega)
        clear hx hC
        by_cases he2 : (e : Int) = 0
        · obtain rfl : e = 0 := by omega
          have hst := Lib.hid (st.2 rfl)
          have hown := HT.out.owns
          have hlen : (acc.length + 1) * 16 ≤ 140737488355328 ∧ acc.length + 1 ≤ maxLen := by
            have h1 := HK.out
            have h3 := HM.out
            unfold maxLen
            omega
          have HL := Lib.hid hlen
          clear st hlen
          go_wp2_with fail
          refine HC.out.mono ?_
          rintro e w2 ⟨rfl, hb2⟩
          have hown2 := owns_kept hown hb2 (Nat.le_refl _)
          have hsz : w.heap.size ≤ w2.heap.size := by have h1 := HT.out.below.size; have h2 := hb2.size; omega
          clear hown
          go_wp2_with (at_builtin; refine wpList_append_own _ rfl _ _ 22 rfl w.heap.size 9 i0 (.string ByteArray.empty) 1 16 Try.underlying22 hi hz0 hz1 hz2 rfl (by decide) _ acc.length _ rfl (hown2.alloc _) ⟨w2.heap.size, 0, none⟩ 1 1 [.string t] rfl rfl (cell_one_new _ _ _) ?c1 ?c2 ?c3 ?c4 ?_)
          case c1 => intro u hu; simp at hu; subst hu; rfl
          case c2 => exact HL.out.2
          case c3 => exact HL.out.1
          case c4 => simp; omega
          intro v' w3 hown3 hgrow _
          have HK2 : Hid ((acc ++ [t]).length + k = n) := by show _ = _; have := HK.out; simp; omega
          have HT2 := Lib.hid (HT.out.next2 hb2 hst.out HS.out hown3 hgrow)
          clear hown2 hown3 hgrow
          go_wp2_with fail
          go_roundw
          case rel => exact ⟨k, q', acc ++ [t], rfl, by go_num, HK2, HT2⟩
          case measure => simp [intOf]
        · have hst := Lib.hid (st.1 (by omega))
          clear st
          go_wp2_with fail
          refine HC.out.mono ?_
          rintro e w2 ⟨rfl, hb2⟩
          go_wp2_with fail
          go_ret3
          rw [hst.out]
          exact listOut_none w w2 e (HT.out.below.trans (hb2.mono HT.out.below.size))
  · rw [if_pos (by simp; omega)] at hR
    have HR := Lib.hid hR
    clear hR hle hs hs' hcnt
    go_enter Try.func30, Try.ntmps30
    go_wp2_with fail
    refine (C1.out _).mono ?_
    rintro e w1 ⟨rfl, hb1⟩
    go_wp2_with fail
    go_ret3
    rw [HR.out]
    exact listOut_none w w1 e hb1
end Go.Proofs.Ytcnnfbmfhjphfaa
