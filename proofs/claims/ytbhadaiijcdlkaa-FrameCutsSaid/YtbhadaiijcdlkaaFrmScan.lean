/- The walk over the document's Scan: what each call returns. Condition: the text is at most 2^42 bytes. -/
import Derived.Test.YtbhadaiijcdlkaaFrmMake
import Derived.Test.YtbhadaiijcdlkaaOctListB
namespace Go.Proofs.Ytbhadaiijcdlkaa
open Go.RowKit

/-- What Scan gives back. -/
def ScanOut (w : World) (r : List ByteArray × Nat) (e : Ending) (w' : World) : Prop :=
  ∃ ao cap, e = .returned (.tuple #[.slice ao r.1.length cap, .int .i64 r.2]) ∧ StrsAt w' ao r.1 ∧ StrsFit r.1 cap ∧ Below w.heap.size w w'

/-- What holds between two rounds. -/
structure Scanning (s : ByteArray) (w : World) (R : List ByteArray × Nat) (q : Nat) (acc : List ByteArray) (v : Value) (wr : World) : Prop where
  owns : wr.ownsRow w.heap.size 9 1 v acc.length (acc.map Value.string)
  below : Below w.heap.size w wr
  goes : ∃ m, Frm.scF s m q acc = R ∧ s.size < q + m
  inside : q ≤ s.size
  few : acc.length ≤ q
  fit : ∀ x ∈ acc, x.size ≤ maxLen
theorem Scanning.start (s : ByteArray) (w w1 : World) (h : Below w.heap.size w w1) : Scanning s w (Frm.scB s) 0 [] (.slice none 0 0) w1 :=
  ⟨World.ownsRow_nil _ _ _ _, h, ⟨s.size + 1, rfl, by omega⟩, Nat.zero_le _, by simp, by simp⟩
theorem Scanning.step {s : ByteArray} {w : World} {R : List ByteArray × Nat} {q : Nat} {acc : List ByteArray} {v : Value} {wr : World} (h : Scanning s w R q acc v wr) {t : ByteArray} {q' e : Nat} (hx : Frm.ftB s (q : Int) = (t, q', e)) :
    (e ≠ 0 → R = (acc, q)) ∧ (e = 0 → q < q' ∧ q' ≤ s.size ∧ t.size ≤ 20000 ∧ ∃ m, Frm.scF s m q' (acc ++ [t]) = R ∧ s.size < q' + m) := by
  obtain ⟨m, hg, hm⟩ := h.goes
  have h1 := Frm.scF_step s m q acc R hg hm h.inside
  have h2 := Frm.ftB_le s (q : Int)
  rw [hx] at h1 h2
  refine ⟨h1.1, fun he => ?_⟩
  obtain ⟨a, b, n, _, c, d⟩ := h1.2 he
  exact ⟨a, b, h2.2, n, c, d⟩
theorem Scanning.done {s : ByteArray} {w : World} {R : List ByteArray × Nat} {q : Nat} {acc : List ByteArray} {v : Value} {wr : World} (h : Scanning s w R q acc v wr) (hR : R = (acc, q)) : ScanOut w R (.returned (.tuple #[v, .int .i64 q])) wr := by
  subst hR
  obtain ⟨ao, cap, rfl, h1, h2⟩ := strs_of_owns h.owns h.fit
  exact ⟨ao, cap, rfl, h1, h2, h.below⟩
theorem Scanning.next {s : ByteArray} {w : World} {R : List ByteArray × Nat} {q q' : Nat} {acc : List ByteArray} {v v' : Value} {wr w1 w2 : World} {t : ByteArray} {o : Obj}
    (h : Scanning s w R q acc v wr) (hb : Below wr.heap.size wr w1) (ht : q < q' ∧ q' ≤ s.size ∧ t.size ≤ 20000 ∧ ∃ m, Frm.scF s m q' (acc ++ [t]) = R ∧ s.size < q' + m)
    (hown : w2.ownsRow w.heap.size 9 1 v' (acc.length + 1) (acc.map Value.string ++ [.string t])) (hg : (w1.alloc o).grownBy w2 v.ownBlock) : Scanning s w R q' (acc ++ [t]) v' w2 := by
  have h1 := h.below.trans (hb.mono h.below.size)
  refine ⟨by simpa using hown, ?_, ht.2.2.2, ht.2.1, ?_, ?_⟩
  · refine (h1.alloc h1.size o).grown hg ?_ (fun g hg => (h.owns.lt g hg).1)
    have := h1.size
    simp; omega
  · have := h.few; have := ht.1; simp; omega
  · intro x hx
    rcases List.mem_append.1 hx with hx | hx
    · exact h.fit x hx
    · simp at hx; subst hx; have := ht.2.2.1; unfold maxLen; omega

set_option maxRecDepth 100000 in
set_option maxHeartbeats 1000000 in
theorem refScan_any (s : ByteArray) (w : World) (hs : s.size ≤ 4398046511104) :
    Calls Try.prog 16 #[.string s] w (ScanOut w (Frm.scB s)) := by
  have C2 := Lib.hid (fun (q : Nat) w => refFTake_any s (q : Int) w (by omega))
  obtain ⟨i0, hi, hz0, hz1, hz2⟩ := info_parts infoStr
  have HT0 := Lib.hid (Scanning.start s w)
  obtain ⟨R, hR⟩ : ∃ R, R = Frm.scB s := ⟨_, rfl⟩
  rw [← hR] at HT0 ⊢
  have HS := Lib.hid hs
  clear hR hs
  go_enter Try.func16, Try.ntmps16
  go_wp2_with fail
  go_loopw [4, 5] (fun v at_ wr => ∃ (q : Nat) (acc : List ByteArray), at_ = .int .i64 (q : Int) ∧ Hid (Scanning s w R q acc v wr)) (fun _ at_ _ => s.size - (intOf at_).toNat)
  case atStart => exact ⟨0, [], rfl, HT0.out _ (Below.refl _ _)⟩
  case round =>
    clear HT0
    obtain ⟨q, acc, rfl, HT⟩ := hrel
    obtain ⟨x, hx⟩ : ∃ x, Frm.ftB s (q : Int) = x := ⟨_, rfl⟩
    obtain ⟨t, q', e⟩ := x
    have st := HT.out.step hx
    have hC := C2.out q wr
    rw [hx] at hC
    unfold tripT at hC
    have HC := Lib.hid hC
    clear hx hC
    by_cases he2 : (e : Int) = 0
    · obtain rfl : e = 0 := by omega
      have hst := Lib.hid (st.2 rfl)
      have hown := HT.out.owns
      have hlen : (acc.length + 1) * 16 ≤ 140737488355328 ∧ acc.length + 1 ≤ maxLen := by
        have h1 := HT.out.few
        have h2 := HT.out.inside
        have h3 := HS.out
        unfold maxLen
        omega
      have HL := Lib.hid hlen
      clear st hlen
      go_wp2_with fail
      refine HC.out.mono ?_
      rintro e w2 ⟨rfl, hb2⟩
      have hown2 := owns_kept hown hb2 (Nat.le_refl _)
      have hsz : w.heap.size ≤ w2.heap.size := by have h1 := HT.out.below.size; have h2 := hb2.size; omega
      clear hown
      go_wp2_with (at_builtin; refine wpList_append_own _ rfl _ _ 22 rfl w.heap.size 9 i0 (.string ByteArray.empty) 1 16 Try.underlying22 hi hz0 hz1 hz2 rfl (by decide) _ acc.length _ rfl (hown2.alloc _) ⟨w2.heap.size, 0, none⟩ 1 1 [.string t] rfl rfl (cell_one_new _ _ _) ?c1 ?c2 ?c3 ?c4 ?_)
      case c1 => intro u hu; simp at hu; subst hu; rfl
      case c2 => exact HL.out.2
      case c3 => exact HL.out.1
      case c4 => simp; omega
      intro v' w3 hown3 hgrow _
      have HT2 := Lib.hid (HT.out.next hb2 hst.out hown3 hgrow)
      have hqq : (q : Int) < (q' : Int) ∧ (q' : Int) ≤ (s.size : Int) := by have := hst.out; omega
      clear hown2 hown3 hgrow
      go_wp2_with fail
      go_roundw
      case rel => exact ⟨q', acc ++ [t], rfl, HT2⟩
      case measure => simp [intOf]; omega
    · have hst := Lib.hid (st.1 (by omega))
      clear st
      go_wp2_with fail
      refine HC.out.mono ?_
      rintro e w2 ⟨rfl, hb2⟩
      go_wp2_with fail
      go_ret2
      have h1 := HT.out
      have h2 : Scanning s w R q acc _ w2 := ⟨owns_kept h1.owns hb2 (Nat.le_refl _), h1.below.trans (hb2.mono h1.below.size), h1.goes, h1.inside, h1.few, h1.fit⟩
      exact h2.done hst.out
end Go.Proofs.Ytbhadaiijcdlkaa
