/- The walks over octets.TakeList: what each call returns. Condition: the text is at most 2^42 bytes (an element of 16 bytes may come out of one byte of text). -/
import Derived.Test.YtcnnfbmfhjphfaaOctTexts
namespace Go.Proofs.Ytcnnfbmfhjphfaa
open Go.RowKit

/-- A number that fits uint64. -/
def OkU (m : Nat) : Prop := m < 18446744073709551616

theorem ttB_next (s : ByteArray) (q : Nat) (h : (Oct.ttB s (q : Int)).2.2 = 0) : q < (Oct.ttB s (q : Int)).2.1 := by
  have hl : s.data.toList.length = s.size := by simp
  have key : (Oct.tnB s (q : Int)).2.2 = 0 → q < (Oct.tnB s (q : Int)).2.1 := by
    unfold Oct.tnB Oct.tnI
    split
    · intro h; simp at h
    · intro h
      rw [Int.toNat_natCast] at h ⊢
      have := Oct.tn_form s.data.toList q (Oct.tn s.data.toList q).1 (Oct.tn s.data.toList q).2.1 (by rw [← h])
      exact this.2.1
  revert h
  unfold Oct.ttB
  simp only
  split
  · intro h; simp_all
  · split
    · intro h; simp at h
    · intro _
      have := key (by omega)
      simp only
      omega

theorem strs_of_owns {w : World} {B : Nat} {v : Value} {acc : List ByteArray} (h : w.ownsRow B 9 1 v acc.length (acc.map Value.string)) (hm : ∀ s ∈ acc, s.size ≤ maxLen) :
    ∃ ao cap, v = .slice ao acc.length cap ∧ StrsAt w ao acc ∧ StrsFit acc cap := by
  have h0 := h
  rcases h.2 with ⟨rfl, hn⟩ | ⟨g, cap, cur, rfl, hbg, hg, hnc, hcm, hcs, htake⟩
  · exact ⟨none, 0, by rw [hn], fun i hi => by omega, ⟨by omega, by simp [maxLen], hm⟩⟩
  · refine ⟨some ⟨g, 0, none⟩, cap, rfl, fun i hi => ⟨g, 0, rfl, ?_, ?_⟩, ⟨hnc, hcm, hm⟩⟩
    · rcases Nat.lt_or_ge g w.heap.size with h' | h'
      · exact h'
      · rw [Array.getElem?_eq_none h'] at hg; cases hg
    · have := h0.cellAt i (by omega)
      rw [Nat.zero_add, this]
      simp [List.getD, hi]
theorem own_form {w : World} {B e n : Nat} {v : Value} {xs : List Value} (h : w.ownsRow B e 1 v (n + 1) xs) : ∃ g cap, v = .slice (some ⟨g, 0, none⟩) (n + 1) cap := by
  rcases h.2 with ⟨_, hn⟩ | ⟨g, cap, cur, hv, _⟩
  · omega
  · exact ⟨g, cap, hv⟩
theorem infoStr : (Try.prog.info? 9).map (fun i => (i.zero, i.size, i.bytes)) = some (some (.string ByteArray.empty), 1, 16) := by kernel_rfl

/-- What TakeList gives back. -/
def ListOut (w : World) (r : List ByteArray × Nat × Nat) (e : Ending) (w' : World) : Prop :=
  ∃ ao cap, e = .returned (.tuple #[.slice ao r.1.length cap, .int .i64 r.2.1, .int .i64 r.2.2]) ∧ StrsAt w' ao r.1 ∧ StrsFit r.1 cap ∧ Below w.heap.size w w'
theorem listOut_none (w w' : World) (e : Nat) (h : Below w.heap.size w w') : ListOut w ([], 0, e) (.returned (.tuple #[.slice none 0 0, .int .i64 0, .int .i64 e])) w' :=
  ⟨none, 0, rfl, fun i hi => by simp at hi, ⟨by simp, by simp [maxLen], by simp⟩, h⟩

/-- What holds between two rounds: so many texts to take, from here, onto what has been taken. -/
structure Taking (s : ByteArray) (w : World) (R : List ByteArray × Nat × Nat) (m q : Nat) (acc : List ByteArray) (v : Value) (wr : World) : Prop where
  owns : wr.ownsRow w.heap.size 9 1 v acc.length (acc.map Value.string)
  below : Below w.heap.size w wr
  goes : Oct.tlF s m q acc = R
  inside : q ≤ s.size
  few : acc.length ≤ q
  fit : ∀ x ∈ acc, x.size ≤ maxLen
  okU : OkU m

theorem Taking.step {s : ByteArray} {w : World} {R : List ByteArray × Nat × Nat} {m q : Nat} {acc : List ByteArray} {v : Value} {wr : World} (h : Taking s w R (m + 1) q acc v wr) {t : ByteArray} {q' e : Nat} (hx : Oct.ttB s (q : Int) = (t, q', e)) :
    (e ≠ 0 → R = ([], 0, e)) ∧ (e = 0 → Oct.tlF s m q' (acc ++ [t]) = R ∧ q' ≤ s.size ∧ q < q' ∧ t.size ≤ s.size) := by
  have hg := h.goes
  unfold Oct.tlF at hg
  rw [hx] at hg
  simp only at hg
  have hle := Oct.ttB_le s (q : Int)
  have hnx := ttB_next s q
  rw [hx] at hle hnx
  simp only at hle hnx
  refine ⟨fun he => ?_, fun he => ?_⟩
  · rw [if_pos he] at hg; exact hg.symm
  · rw [if_neg (by omega)] at hg
    exact ⟨hg, hle.1, hnx he, hle.2⟩
theorem Taking.done {s : ByteArray} {w : World} {R : List ByteArray × Nat × Nat} {q : Nat} {acc : List ByteArray} {v : Value} {wr : World} (h : Taking s w R 0 q acc v wr) : ListOut w R (.returned (.tuple #[v, .int .i64 q, .int .i64 0])) wr := by
  have hg := h.goes
  unfold Oct.tlF at hg
  subst hg
  obtain ⟨ao, cap, rfl, h1, h2⟩ := strs_of_owns h.owns h.fit
  exact ⟨ao, cap, rfl, h1, h2, h.below⟩

theorem Taking.next {s : ByteArray} {w : World} {R : List ByteArray × Nat × Nat} {k q q' : Nat} {acc : List ByteArray} {v v' : Value} {wr w1 w2 : World} {t : ByteArray} {o : Obj}
    (h : Taking s w R (k + 1) q acc v wr) (hb : Below wr.heap.size wr w1) (ht : Oct.tlF s k q' (acc ++ [t]) = R ∧ q' ≤ s.size ∧ q < q' ∧ t.size ≤ s.size) (hs : s.size ≤ 4398046511104)
    (hown : w2.ownsRow w.heap.size 9 1 v' (acc.length + 1) (acc.map Value.string ++ [.string t])) (hg : (w1.alloc o).grownBy w2 v.ownBlock) : Taking s w R k q' (acc ++ [t]) v' w2 := by
  have h1 := h.below.trans (hb.mono h.below.size)
  refine ⟨by simpa using hown, ?_, ht.1, ht.2.1, ?_, ?_, ?_⟩
  · refine (h1.alloc h1.size o).grown hg ?_ (fun g hg => (h.owns.lt g hg).1)
    have := h1.size
    simp; omega
  · have := h.few; simp; omega
  · intro x hx
    rcases List.mem_append.1 hx with hx | hx
    · exact h.fit x hx
    · simp at hx; subst hx; have := ht.2.2.2; unfold maxLen; omega
  · have := h.okU; unfold OkU at *; omega

set_option maxRecDepth 100000 in
set_option maxHeartbeats 1000000 in
theorem takeList_any (s : ByteArray) (p : Int) (w : World) (hs : s.size ≤ 4398046511104) :
    Calls Try.prog 30 #[.string s, .int .i64 p] w (ListOut w (Oct.tlB s p)) := by
  have hs' : s.size ≤ maxLen := by unfold maxLen; omega
  have C1 := Lib.hid (fun w => takeNumber_any s p w hs')
  have C2 := Lib.hid (fun (q : Nat) w => takeText_any s (q : Int) w hs')
  obtain ⟨i0, hi, hz0, hz1, hz2⟩ := info_parts infoStr
  have hle := Oct.tnB_le s p
  obtain ⟨R, hR⟩ : ∃ R, R = Oct.tlB s p := ⟨_, rfl⟩
  rw [← hR]
  unfold Oct.tlB at hR
  generalize Oct.tnB s p = x at *
  obtain ⟨n, q, e⟩ := x
  unfold trip at C1
  simp only at C1 hR hle
  by_cases he : (e : Int) = 0
  · obtain rfl : e = 0 := by omega
    rw [if_neg (by simp)] at hR
    have HT0 : ∀ w1, Below w.heap.size w w1 → Hid (Taking s w R n q [] (.slice none 0 0) w1) := fun w1 hb => ⟨World.ownsRow_nil _ _ _ _, hb, hR.symm, hle.1, by simp, by simp, hle.2⟩
    have HS := Lib.hid hs
    clear hR hle hs hs'
    go_enter Try.func30, Try.ntmps30
    go_wp2_with fail
    refine (C1.out _).mono ?_
    rintro e w1 ⟨rfl, hb1⟩
    have HT := HT0 w1 hb1
    clear C1 HT0
    go_wp2_with fail
    go_loopw [1, 7, 9] (fun at_ m v wr => ∃ (k q : Nat) (acc : List ByteArray), at_ = .int .i64 (q : Int) ∧ m = .int .u64 (k : Int) ∧ Hid (Taking s w R k q acc v wr)) (fun _ m _ _ => (intOf m).toNat)
    case atStart => exact ⟨n, q, [], rfl, rfl, HT⟩
    case round =>
      clear HT
      obtain ⟨k, q, acc, rfl, rfl, HT⟩ := hrel
      rcases k with _ | k
      · go_wp2_with fail
        go_ret3
        exact HT.out.done
      · obtain ⟨x, hx⟩ : ∃ x, Oct.ttB s (q : Int) = x := ⟨_, rfl⟩
        obtain ⟨t, q', e⟩ := x
        have st := HT.out.step hx
        have hC := C2.out q wr
        rw [hx] at hC
        unfold tripT at hC
        have HC := Lib.hid hC
        have hw : IntKind.u64.wrap (k : Int) = (k : Int) := Oct.wrap_small (by have := HT.out.okU; unfold OkU at this; omega)
        clear hx hC
        by_cases he2 : (e : Int) = 0
        · obtain rfl : e = 0 := by omega
          have hst := Lib.hid (st.2 rfl)
          have hown := HT.out.owns
          have hlen : (acc.length + 1) * 16 ≤ 140737488355328 ∧ acc.length + 1 ≤ maxLen := by
            have h1 := HT.out.few
            have h2 := HT.out.inside
            have h3 := HS.out
            unfold maxLen
            omega
          have HL := Lib.hid hlen
          clear st hlen
          go_wp2_with fail
          refine HC.out.mono ?_
          rintro e w2 ⟨rfl, hb2⟩
          have hown2 := owns_kept hown hb2 (Nat.le_refl _)
          have hsz : w.heap.size ≤ w2.heap.size := by have h1 := HT.out.below.size; have h2 := hb2.size; omega
          clear hown
          go_wp2_with (at_builtin; refine wpList_append_own _ rfl _ _ 22 rfl w.heap.size 9 i0 (.string ByteArray.empty) 1 16 Try.underlying22 hi hz0 hz1 hz2 rfl (by decide) _ acc.length _ rfl (hown2.alloc _) ⟨w2.heap.size, 0, none⟩ 1 1 [.string t] rfl rfl (cell_one_new _ _ _) ?c1 ?c2 ?c3 ?c4 ?_)
          case c1 => intro u hu; simp at hu; subst hu; rfl
          case c2 => exact HL.out.2
          case c3 => exact HL.out.1
          case c4 => simp; omega
          intro v' w3 hown3 hgrow _
          have HT2 := Lib.hid (HT.out.next hb2 hst.out HS.out hown3 hgrow)
          clear hown2 hown3 hgrow
          go_wp2_with fail
          go_roundw
          case rel => exact ⟨k, q', acc ++ [t], rfl, by go_num, HT2⟩
          case measure => simp [intOf]
        · have hst := Lib.hid (st.1 (by omega))
          clear st
          go_wp2_with fail
          refine HC.out.mono ?_
          rintro e w2 ⟨rfl, hb2⟩
          go_wp2_with fail
          go_ret3
          rw [hst.out]
          exact listOut_none w w2 e (HT.out.below.trans (hb2.mono HT.out.below.size))
  · rw [if_pos (by simp; omega)] at hR
    have HR := Lib.hid hR
    clear hR hle hs hs'
    go_enter Try.func30, Try.ntmps30
    go_wp2_with fail
    refine (C1.out _).mono ?_
    rintro e w1 ⟨rfl, hb1⟩
    go_wp2_with fail
    go_ret3
    rw [HR.out]
    exact listOut_none w w1 e hb1
end Go.Proofs.Ytcnnfbmfhjphfaa
