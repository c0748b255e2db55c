/- The walks over the document's TakeNumber (pandectref01): what each call returns. Condition: the text is at most maxLen bytes. -/
import Derived.Test.YtbajgpbekanodaaOctTake
import Derived.Test.YtbajgpbekanodaaRegion
import Derived.Test.YtbajgpbekanodaaOctText
import Derived.BigQuiet
namespace Go.Proofs.Ytbajgpbekanodaa
open Go.RowKit

theorem un_small (l : List UInt8) (h : l.length ≤ 8) : Oct.un l < 18446744073709551616 :=
  Nat.lt_of_lt_of_le (Oct.un_lt l) (Nat.le_trans (Nat.pow_le_pow_right (by decide) h) (by decide))
end Go.Proofs.Ytbajgpbekanodaa
namespace Go.Proofs.Ytbajgpbekanodaa
open Go.RowKit

/-- A text taken, as the program gives it back. -/
def tripT (r : ByteArray × Nat × Nat) : Value := .tuple #[.string r.1, .int .i64 r.2.1, .int .i64 r.2.2]

theorem cut_cut (s : ByteArray) (q n : Nat) (h : q + n ≤ s.size) : (s.extract q s.size).extract 0 n = s.extract q (q + n) := by
  apply ByteArray.ext
  rw [ByteArray.data_extract, ByteArray.data_extract, ByteArray.data_extract, Array.extract_extract]
  congr 1
  have : s.data.size = s.size := rfl
  omega

end Go.Proofs.Ytbajgpbekanodaa
namespace Go.Proofs.Ytbajgpbekanodaa
open Go.RowKit

/-- A number that fits uint64. -/
def OkU (m : Nat) : Prop := m < 18446744073709551616

theorem ttB_next (s : ByteArray) (q : Nat) (h : (Oct.ttB s (q : Int)).2.2 = 0) : q < (Oct.ttB s (q : Int)).2.1 := by
  have hl : s.data.toList.length = s.size := by simp
  have key : (Oct.tnB s (q : Int)).2.2 = 0 → q < (Oct.tnB s (q : Int)).2.1 := by
    unfold Oct.tnB Oct.tnI
    split
    · intro h; simp at h
    · intro h
      rw [Int.toNat_natCast] at h ⊢
      have := Oct.tn_form s.data.toList q (Oct.tn s.data.toList q).1 (Oct.tn s.data.toList q).2.1 (by rw [← h])
      exact this.2.1
  revert h
  unfold Oct.ttB
  simp only
  split
  · intro h; simp_all
  · split
    · intro h; simp at h
    · intro _
      have := key (by omega)
      simp only
      omega

theorem strs_of_owns {w : World} {B : Nat} {v : Value} {acc : List ByteArray} (h : w.ownsRow B 9 1 v acc.length (acc.map Value.string)) (hm : ∀ s ∈ acc, s.size ≤ maxLen) :
    ∃ ao cap, v = .slice ao acc.length cap ∧ StrsAt w ao acc ∧ StrsFit acc cap := by
  have h0 := h
  rcases h.2 with ⟨rfl, hn⟩ | ⟨g, cap, cur, rfl, hbg, hg, hnc, hcm, hcs, htake⟩
  · exact ⟨none, 0, by rw [hn], fun i hi => by omega, ⟨by omega, by simp [maxLen], hm⟩⟩
  · refine ⟨some ⟨g, 0, none⟩, cap, rfl, fun i hi => ⟨g, 0, rfl, ?_, ?_⟩, ⟨hnc, hcm, hm⟩⟩
    · rcases Nat.lt_or_ge g w.heap.size with h' | h'
      · exact h'
      · rw [Array.getElem?_eq_none h'] at hg; cases hg
    · have := h0.cellAt i (by omega)
      rw [Nat.zero_add, this]
      simp [List.getD, hi]
theorem own_form {w : World} {B e n : Nat} {v : Value} {xs : List Value} (h : w.ownsRow B e 1 v (n + 1) xs) : ∃ g cap, v = .slice (some ⟨g, 0, none⟩) (n + 1) cap := by
  rcases h.2 with ⟨_, hn⟩ | ⟨g, cap, cur, hv, _⟩
  · omega
  · exact ⟨g, cap, hv⟩
theorem infoStr : (Try.prog.info? 9).map (fun i => (i.zero, i.size, i.bytes)) = some (some (.string ByteArray.empty), 1, 16) := by kernel_rfl

/-- What TakeList gives back. -/
def ListOut (w : World) (r : List ByteArray × Nat × Nat) (e : Ending) (w' : World) : Prop :=
  ∃ ao cap, e = .returned (.tuple #[.slice ao r.1.length cap, .int .i64 r.2.1, .int .i64 r.2.2]) ∧ StrsAt w' ao r.1 ∧ StrsFit r.1 cap ∧ Below w.heap.size w w'
theorem listOut_none (w w' : World) (e : Nat) (h : Below w.heap.size w w') : ListOut w ([], 0, e) (.returned (.tuple #[.slice none 0 0, .int .i64 0, .int .i64 e])) w' :=
  ⟨none, 0, rfl, fun i hi => by simp at hi, ⟨by simp, by simp [maxLen], by simp⟩, h⟩

/-- What holds between two rounds: so many texts to take, from here, onto what has been taken. -/
structure Taking (s : ByteArray) (w : World) (R : List ByteArray × Nat × Nat) (m q : Nat) (acc : List ByteArray) (v : Value) (wr : World) : Prop where
  owns : wr.ownsRow w.heap.size 9 1 v acc.length (acc.map Value.string)
  below : Below w.heap.size w wr
  goes : Oct.tlF s m q acc = R
  inside : q ≤ s.size
  few : acc.length ≤ q
  fit : ∀ x ∈ acc, x.size ≤ maxLen
  okU : OkU m

theorem Taking.step {s : ByteArray} {w : World} {R : List ByteArray × Nat × Nat} {m q : Nat} {acc : List ByteArray} {v : Value} {wr : World} (h : Taking s w R (m + 1) q acc v wr) {t : ByteArray} {q' e : Nat} (hx : Oct.ttB s (q : Int) = (t, q', e)) :
    (e ≠ 0 → R = ([], 0, e)) ∧ (e = 0 → Oct.tlF s m q' (acc ++ [t]) = R ∧ q' ≤ s.size ∧ q < q' ∧ t.size ≤ s.size) := by
  have hg := h.goes
  unfold Oct.tlF at hg
  rw [hx] at hg
  simp only at hg
  have hle := Oct.ttB_le s (q : Int)
  have hnx := ttB_next s q
  rw [hx] at hle hnx
  simp only at hle hnx
  refine ⟨fun he => ?_, fun he => ?_⟩
  · rw [if_pos he] at hg; exact hg.symm
  · rw [if_neg (by omega)] at hg
    exact ⟨hg, hle.1, hnx he, hle.2⟩
theorem Taking.done {s : ByteArray} {w : World} {R : List ByteArray × Nat × Nat} {q : Nat} {acc : List ByteArray} {v : Value} {wr : World} (h : Taking s w R 0 q acc v wr) : ListOut w R (.returned (.tuple #[v, .int .i64 q, .int .i64 0])) wr := by
  have hg := h.goes
  unfold Oct.tlF at hg
  subst hg
  obtain ⟨ao, cap, rfl, h1, h2⟩ := strs_of_owns h.owns h.fit
  exact ⟨ao, cap, rfl, h1, h2, h.below⟩

theorem Taking.next {s : ByteArray} {w : World} {R : List ByteArray × Nat × Nat} {k q q' : Nat} {acc : List ByteArray} {v v' : Value} {wr w1 w2 : World} {t : ByteArray} {o : Obj}
    (h : Taking s w R (k + 1) q acc v wr) (hb : Below wr.heap.size wr w1) (ht : Oct.tlF s k q' (acc ++ [t]) = R ∧ q' ≤ s.size ∧ q < q' ∧ t.size ≤ s.size) (hs : s.size ≤ 4398046511104)
    (hown : w2.ownsRow w.heap.size 9 1 v' (acc.length + 1) (acc.map Value.string ++ [.string t])) (hg : (w1.alloc o).grownBy w2 v.ownBlock) : Taking s w R k q' (acc ++ [t]) v' w2 := by
  have h1 := h.below.trans (hb.mono h.below.size)
  refine ⟨by simpa using hown, ?_, ht.1, ht.2.1, ?_, ?_, ?_⟩
  · refine (h1.alloc h1.size o).grown hg ?_ (fun g hg => (h.owns.lt g hg).1)
    have := h1.size
    simp; omega
  · have := h.few; simp; omega
  · intro x hx
    rcases List.mem_append.1 hx with hx | hx
    · exact h.fit x hx
    · simp at hx; subst hx; have := ht.2.2.2; unfold maxLen; omega
  · have := h.okU; unfold OkU at *; omega

end Go.Proofs.Ytbajgpbekanodaa
namespace Go.Proofs.Ytbajgpbekanodaa
open Go.RowKit

set_option maxRecDepth 100000 in
set_option maxHeartbeats 1000000 in
theorem same_yes (ao bo : Option Addr) (ca cb : Nat) (ss : List ByteArray) (w : World) (hf : StrsFit ss ca) (ha : StrsAt w ao ss) (hb : StrsAt w bo ss) :
    Calls Try.prog 30 #[.slice ao ss.length ca, .slice bo ss.length cb] w fun e w' => e = .returned (.bool true) ∧ Below w.heap.size w w' := by
  have hm : (ss.length : Int) ≤ 9223372036854775807 := by have h1 := hf.1; have h2 := hf.2.1; unfold maxLen at h2; omega
  obtain ⟨n, hn⟩ : ∃ n, n = ss.length := ⟨_, rfl⟩
  have HN := Lib.hid hn
  have HA := Lib.hid ha
  have HB := Lib.hid hb
  rw [← hn] at hm ⊢
  clear hn ha hb hf
  go_enter Try.func30, Try.ntmps30
  go_wp2_with fail
  go_loopw [5] (fun i wr => ∃ k : Nat, (k : Int) ≤ (n : Int) ∧ i = .int .i64 (k : Int) ∧ Below w.heap.size w wr) (fun i _ => n - (intOf i).toNat)
  case atStart => exact ⟨0, by omega, rfl, Below.refl _ _⟩
  case round =>
    obtain ⟨k, hk, rfl, hbel⟩ := hrel
    by_cases hlt : (k : Int) < (n : Int)
    · have hkl : k < ss.length := by rw [← HN.out]; omega
      obtain ⟨b, off, rfl, hbl, hcell0⟩ := HA.out k hkl
      obtain ⟨b2, off2, rfl, hbl2, hcell2⟩ := HB.out k hkl
      have hcell := (hbel.cell (p := ⟨b, off + k, none⟩) hbl).trans hcell0
      have hcellb := (hbel.cell (p := ⟨b2, off2 + k, none⟩) hbl2).trans hcell2
      generalize ss.getD k ByteArray.empty = s at *
      clear hcell0 hcell2 hkl
      go_wp2_with fail
      go_quiet (fail)
      go_wp2_with fail
      go_roundw
      case rel => exact ⟨k + 1, by omega, by go_num, Below.drewN hbel _⟩
      case measure => simp [intOf]; omega
    · obtain rfl : k = n := by omega
      go_wp2_with fail
      go_ret
      exact ⟨rfl, hbel⟩
end Go.Proofs.Ytbajgpbekanodaa
