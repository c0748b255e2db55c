/- The walks over slices.Clone of entries and Feed.Since. -/
import Derived.Test.YtbajgpbekanodaaFeedAdd
namespace Go.Proofs.Ytbajgpbekanodaa
open Go.RowKit

theorem flat_at (es : List Fd.Ent) : ∀ (j : Nat) (u : Value), (Fd.flat es)[j]? = some u → j / 3 < es.length ∧ (es.getD (j / 3) Ent0).cells[j % 3]? = some u := by
  induction es with
  | nil => intro j u h; simp [Fd.flat] at h
  | cons e es ih =>
    intro j u h
    have hf : Fd.flat (e :: es) = e.cells ++ Fd.flat es := rfl
    have hl : e.cells.length = 3 := rfl
    rw [hf] at h
    by_cases hj : j < 3
    · rw [List.getElem?_append_left (by omega)] at h
      have e1 : j / 3 = 0 := by omega
      have e2 : j % 3 = j := by omega
      rw [e1, e2]
      exact ⟨by simp, by simpa using h⟩
    · rw [List.getElem?_append_right (by omega), hl] at h
      obtain ⟨h1, h2⟩ := ih (j - 3) u h
      have e1 : j / 3 = (j - 3) / 3 + 1 := by omega
      have e2 : j % 3 = (j - 3) % 3 := by omega
      rw [e1, e2]
      exact ⟨by simpa using h1, by simpa using h2⟩
theorem news_ents {w : World} {b off : Nat} {es : List Fd.Ent} (h : EntsAt w (some ⟨b, off, none⟩) es) : ∀ j u, (Fd.flat es)[j]? = some u → w.cell? ((⟨b, off, none⟩ : Addr).add j) = some u := fun j u hu => by
  obtain ⟨h1, h2⟩ := flat_at es j u hu
  obtain ⟨b', off', ha, _, c0, c1, c2⟩ := h (j / 3) h1
  simp at ha
  obtain ⟨rfl, rfl⟩ := ha
  rw [Go.WideShapes.add_plain]
  have hr : j % 3 = 0 ∨ j % 3 = 1 ∨ j % 3 = 2 := by omega
  rcases hr with hr | hr | hr <;> rw [hr] at h2 <;> injection h2 with h2
  · rw [show off + j = off + j / 3 * 3 by omega, c0, ← h2]
  · rw [show off + j = off + j / 3 * 3 + 1 by omega, c1, ← h2]
  · rw [show off + j = off + j / 3 * 3 + 2 by omega, c2, ← h2]
theorem news_off {w w' : World} {q off j : Nat} {u : Value} (hb : Below w.heap.size w w') (h : w.cell? ((⟨q, off, none⟩ : Addr).add j) = some u) : w'.cell? ((⟨q, off, none⟩ : Addr).add j) = some u := by
  rw [Go.WideShapes.add_plain] at *
  exact (hb.cell (World.block_lt_of_cell? _ _ h)).trans h
theorem flat_one_cell (es : List Fd.Ent) : ∀ u ∈ Fd.flat es, u.oneCell' = true := by
  intro u hu
  unfold Fd.flat at hu
  obtain ⟨e, _, he⟩ := List.mem_flatMap.1 hu
  unfold Fd.Ent.cells at he
  simp at he
  rcases he with rfl | rfl | rfl <;> rfl
/-- Entries given back in a new row. -/
def EntOut (w : World) (es : List Fd.Ent) (e : Ending) (w' : World) : Prop := ∃ v, e = .returned v ∧ w'.ownsRow w.heap.size 82 3 v es.length (Fd.flat es) ∧ Below w.heap.size w w'

set_option maxRecDepth 100000 in
set_option maxHeartbeats 2000000 in
theorem clone_any (es : List Fd.Ent) (ao : Option Addr) (n cap : Nat) (w : World) (hn : n = es.length) (hm : n ≤ 1000000) (hs : ∀ a, ao = some a → a.spot = none) (h : EntsAt w ao es) :
    Calls Try.prog 66 #[.slice ao n cap] w (EntOut w es) := by
  obtain ⟨i0, hi, hz0, hz1, hz2⟩ := info_partsA infoEnt
  cases ao with
  | none =>
    have h0 : es = [] := by
      cases es with
      | nil => rfl
      | cons e es => obtain ⟨_, _, ha, _⟩ := h 0 (by simp); cases ha
    subst h0 hn
    have hq : ∀ w, (binOp BinOp.eql 49 (.slice none 0 cap) (.slice none 0 0)).run Try.prog w = .ok (.bool true) w := fun _ => by kernel_rfl
    simp only [List.length_nil]
    clear h
    go_enter Try.func66, Try.ntmps66
    go_wp2_with fail
    go_ret
    exact ⟨_, rfl, World.ownsRow_nil _ _ _ _, Below.refl _ _⟩
  | some ad =>
    obtain ⟨b, off, spot⟩ := ad
    have hsp : spot = none := hs _ rfl
    subst hsp
    have HNEW := Lib.hid (news_ents h)
    have HN := Lib.hid hn
    have HM := Lib.hid hm
    have hq : ∀ w, (binOp BinOp.eql 49 (.slice (some ⟨b, off, none⟩) n cap) (.slice none 0 0)).run Try.prog w = .ok (.bool false) w := fun _ => by kernel_rfl
    clear h hs hn hm
    go_enter Try.func66, Try.ntmps66
    go_wp2_with (at_builtin; refine wpList_append_own _ rfl _ _ 49 rfl w.heap.size 82 i0 _ 3 40 Try.underlying49 hi hz0 hz1 hz2 rfl (by decide) _ 0 [] rfl (World.ownsRow_made w #[] 0 (Nat.le_refl _) (by simp [maxLen]) rfl) ⟨b, off, none⟩ n cap (Fd.flat es) rfl (by rw [Fd.flat_length, HN.out]) (fun j u hu => by have h1 := HNEW.out j u hu; exact (news_off ((Below.refl w.heap.size w).alloc (Nat.le_refl _) _) h1)) (flat_one_cell es) (by have := HM.out; unfold maxLen; omega) (by have := HM.out; omega) (by simp) ?_)
    intro v' w3 hown3 hgrow _
    have HF : Hid (w3.ownsRow w.heap.size 82 3 v' es.length (Fd.flat es) ∧ Below w.heap.size w w3) := by
      refine ⟨by rw [← HN.out]; simpa using hown3, ((Below.refl _ w).alloc (Nat.le_refl _) _).grown hgrow (by simp) fun q hq => ?_⟩
      have : w.heap.size = q := by simpa [Value.ownBlock] using hq
      omega
    clear hown3 hgrow
    go_wp2_with fail
    go_ret
    exact ⟨_, rfl, HF.out.1, HF.out.2⟩

/-- The entries behind one. -/
def sinceL (es : List Fd.Ent) (seq most : Int) : List Fd.Ent := if (es.length : Int) ≤ seq ∨ most < 1 then [] else (es.drop (max seq 0).toNat).take most.toNat
theorem entOut_nil (w w' : World) (h : Below w.heap.size w w') : EntOut w [] (.returned (.slice none 0 0)) w' := ⟨_, rfl, World.ownsRow_nil _ _ _ _, h⟩
set_option maxRecDepth 100000 in
set_option maxHeartbeats 2000000 in
theorem since_none (p n cp : Nat) (ao : Option Addr) (h : ByteArray) (t : TypeId) (seq most : Int) (w : World) (hp : w.heap[p]? = some (.cells #[.slice ao n cp, .string h] t (0, 0))) (hb : (n : Int) ≤ seq ∨ most < 1) :
    Calls Try.prog 47 #[.pointer (some ⟨p, 0, none⟩), .int .i64 seq, .int .i64 most] w (EntOut w []) := by
  have hc0 : w.cell? ⟨p, 0, none⟩ = some (.slice ao n cp) := by simp [World.cell?, hp]
  clear hp
  by_cases h1 : (n : Int) ≤ seq
  · clear hb
    go_enter Try.func47, Try.ntmps47
    go_wp2_with fail
    go_ret
    exact entOut_nil w w (Below.refl _ _)
  · have h2 : most < 1 := by omega
    have d1 : decide ((n : Int) ≤ seq) = false := decide_eq_false h1
    clear hb
    go_enter Try.func47, Try.ntmps47
    go_wp2_with fail
    go_ret
    exact entOut_nil w w (Below.refl _ _)
set_option maxRecDepth 100000 in
set_option maxHeartbeats 2000000 in
theorem since_some (p n cp k m b off : Nat) (h : ByteArray) (t : TypeId) (seq most : Int) (es : List Fd.Ent) (w : World) (hp : w.heap[p]? = some (.cells #[.slice (some ⟨b, off, none⟩) n cp, .string h] t (0, 0))) (hs : seq < (n : Int)) (hm : 1 ≤ most) (hnc : (n : Int) ≤ (cp : Int))
    (hk : max seq 0 = (k : Int)) (hkn : (k : Int) < (n : Int)) (hmm : min most (((n - k : Nat)) : Int) = (m : Int)) (hmn : (m : Int) ≤ ((n - k : Nat) : Int))
    (CC : Hid (Calls Try.prog 66 #[.slice (some ⟨b, off + k * 3, none⟩) m (cp - k)] w (EntOut w es))) :
    Calls Try.prog 47 #[.pointer (some ⟨p, 0, none⟩), .int .i64 seq, .int .i64 most] w (EntOut w es) := by
  have hc0 : w.cell? ⟨p, 0, none⟩ = some (.slice (some ⟨b, off, none⟩) n cp) := by simp [World.cell?, hp]
  have d1 : decide ((n : Int) ≤ seq) = false := decide_eq_false (by omega)
  have d2 : decide (most < 1) = false := decide_eq_false (by omega)
  have hk0 : (0 : Int) ≤ (k : Int) := Int.natCast_nonneg _
  have hm0 : (0 : Int) ≤ (m : Int) := Int.natCast_nonneg _
  have hkc : (k : Int) ≤ (cp : Int) := by omega
  have hkn1 : (k : Int) ≤ (n : Int) := by omega
  have hcne : ¬ cp = k := by omega
  have hmc : (m : Int) ≤ ((cp - k : Nat) : Int) := by omega
  clear hp
  go_enter Try.func47, Try.ntmps47
  go_wp2_with fail
  refine CC.out.mono ?_
  rintro e w1 ⟨v, rfl, h1, h2⟩
  have H1 := Lib.hid h1
  clear h1
  go_wp2_with fail
  go_ret
  exact ⟨v, rfl, H1.out, h2⟩
set_option maxRecDepth 100000 in
set_option maxHeartbeats 2000000 in
theorem since_zero (p cp : Nat) (ao : Option Addr) (ha : ao = none ∨ ∃ b, ao = some ⟨b, 0, none⟩) (h : ByteArray) (t : TypeId) (seq most : Int) (w : World) (hp : w.heap[p]? = some (.cells #[.slice ao 0 cp, .string h] t (0, 0))) (hs : seq < 0) (hm : 1 ≤ most)
    (CC : Hid (∀ ao cap, (ao = none ∨ ∃ b, ao = some ⟨b, 0, none⟩) → Calls Try.prog 66 #[.slice ao 0 cap] w (EntOut w []))) :
    Calls Try.prog 47 #[.pointer (some ⟨p, 0, none⟩), .int .i64 seq, .int .i64 most] w (EntOut w []) := by
  have hc0 : w.cell? ⟨p, 0, none⟩ = some (.slice ao 0 cp) := by simp [World.cell?, hp]
  have d1 : decide ((0 : Int) ≤ seq) = false := decide_eq_false (by omega)
  have d2 : decide (most < 1) = false := decide_eq_false (by omega)
  have hk : max seq 0 = 0 := by omega
  have hmm : min most 0 = 0 := by omega
  clear hp
  rcases ha with rfl | ⟨b, rfl⟩
  · go_enter Try.func47, Try.ntmps47
    go_wp2_with fail
    refine (CC.out _ _ (Or.inl rfl)).mono ?_
    rintro e w1 ⟨v, rfl, h1, h2⟩
    have H1 := Lib.hid h1
    clear h1
    go_wp2_with fail
    go_ret
    exact ⟨v, rfl, H1.out, h2⟩
  · go_enter Try.func47, Try.ntmps47
    go_wp2_with fail
    refine (CC.out _ _ (Or.inr ⟨b, by first | rfl | simp⟩)).mono ?_
    rintro e w1 ⟨v, rfl, h1, h2⟩
    have H1 := Lib.hid h1
    clear h1
    go_wp2_with fail
    go_ret
    exact ⟨v, rfl, H1.out, h2⟩
theorem since_any (S : Nat → Prop) (p : Nat) (t : TypeId) (st : Fd.State) (v : Value) (seq most : Int) (w : World) (hf : FeedIn S p t st v w) (hn : st.all.length ≤ 1000000) :
    Calls Try.prog 47 #[.pointer (some ⟨p, 0, none⟩), .int .i64 seq, .int .i64 most] w (EntOut w (sinceL st.all seq most)) := by
  obtain ⟨ao, cp, rfl, hat, hnc, hcm⟩ := hf.form
  unfold maxLen at hcm
  unfold sinceL
  by_cases hb : (st.all.length : Int) ≤ seq ∨ most < 1
  · rw [if_pos hb]
    exact since_none p st.all.length cp ao st.head t seq most w hf.at_ hb
  · rw [if_neg hb]
    rcases Nat.eq_zero_or_pos st.all.length with h0 | hpos
    · have he : st.all = [] := List.eq_nil_of_length_eq_zero h0
      have hr : (st.all.drop (max seq 0).toNat).take most.toNat = [] := by rw [he]; simp
      rw [hr]
      have hat_ := hf.at_
      rw [h0] at hat_ hb
      have ha : ao = none ∨ ∃ b, ao = some ⟨b, 0, none⟩ := by
        rcases hf.own.2 with ⟨h, _⟩ | ⟨g, cap, cur, h, _⟩
        · left; injection h
        · right; exact ⟨g, by injection h⟩
      refine since_zero p cp ao ha st.head t seq most w hat_ (by omega) (by omega) fun ao' cap' ha' => ?_
      refine clone_any [] ao' 0 cap' w rfl (by omega) (fun a h => ?_) (fun i hi => by simp at hi)
      rcases ha' with rfl | ⟨b, rfl⟩
      · cases h
      · cases h; rfl
    obtain ⟨b, off, rfl, _, _⟩ := hat 0 hpos
    have hkn : (max seq 0).toNat < st.all.length := by omega
    refine since_some p st.all.length cp (max seq 0).toNat (min most.toNat (st.all.length - (max seq 0).toNat)) b off st.head t seq most _ w hf.at_ (by omega) (by omega) (by omega) (by omega) (by omega) (by omega) (by omega) ?_
    refine clone_any _ _ _ _ w ?_ (by omega) (fun a ha => by cases ha; rfl) (entsAt_take (entsAt_drop hat _) _)
    rw [List.length_take, List.length_drop]
end Go.Proofs.Ytbajgpbekanodaa
