/- The walks over the document's Goes and Head. -/
import Derived.Test.YtbajgpbekanodaaFeedChain
import Derived.Test.YtbajgpbekanodaaFeedClashA
namespace Go.Proofs.Ytbajgpbekanodaa
open Go.RowKit

theorem next_iff {x : Fd.Ent} {st : Fd.State} : x = st.next x.body ↔ x.seq = (st.all.length : Int) + 1 ∧ x.prev = st.head := by
  obtain ⟨a, b, c⟩ := x
  unfold Fd.State.next
  rw [Fd.Ent.mk.injEq]
  simp
set_option maxRecDepth 100000 in
set_option maxHeartbeats 4000000 in
theorem refGoes_any {H : ByteArray → ByteArray} (hS : RefLaw H) (st : Fd.State) (es : List Fd.Ent) (eo : Option Addr) (cap : Nat) (w : World) (hc : EntsAt w eo es) (hok : ∀ e ∈ es, e.ok) (hl : es.length ≤ 100000) (hst : st.all.length ≤ 1000000) (x0 : Int) (hx0 : (st.all.length : Int) = x0) :
    Calls Try.prog 72 #[.int .i64 x0, .string st.head, .slice eo es.length cap] w fun e w' => e = .returned (.bool (goesL H st es)) ∧ Below w.heap.size w w' := by
  rw [← hx0]
  have HC := Lib.hid hc
  have HOKS := Lib.hid hok
  obtain ⟨m, hm⟩ : ∃ m, m = es.length := ⟨_, rfl⟩
  have HM := Lib.hid hm
  have hm6 : (m : Int) ≤ 100000 := by omega
  have HST := Lib.hid hst
  rw [← hm]
  obtain ⟨R, hR⟩ : ∃ R, R = goesL H st es := ⟨_, rfl⟩
  have HR : Hid (goesL H st es = R) := hR.symm
  rw [← hR]
  obtain ⟨L0, hL0⟩ : ∃ L0, L0 = st.all.length := ⟨_, rfl⟩
  obtain ⟨hd0, hhd0⟩ : ∃ hd0, hd0 = st.head := ⟨_, rfl⟩
  have HL0 := Lib.hid hL0
  have HH0 := Lib.hid hhd0
  rw [← hL0, ← hhd0]
  clear hc hok hl hm hR hst hx0 hL0 hhd0
  go_enter Try.func72, Try.ntmps72
  go_wp2_with fail
  go_loopw [0, 1, 7] (fun vn vh i wr => ∃ (j L : Nat) (sk : Fd.State) (hd : ByteArray), (j : Int) ≤ (m : Int) ∧ (L : Int) ≤ 1000000 + (j : Int) ∧ vn = .int .i64 (L : Int) ∧ vh = .string hd ∧ i = .int .i64 (j : Int) ∧ Hid (goesL H sk (es.drop j) = R) ∧ Hid (L = sk.all.length ∧ hd = sk.head) ∧ Hid (Below w.heap.size w wr)) (fun _ _ i _ => m - (intOf i).toNat)
  case atStart => exact ⟨0, L0, st, hd0, by omega, by have h1 := HL0.out; have h2 := HST.out; omega, rfl, rfl, rfl, HR, ⟨HL0.out, HH0.out⟩, Below.refl _ _⟩
  case round =>
    clear HR HL0 HH0
    obtain ⟨j, L, sk, hd, hj, hL, rfl, rfl, rfl, HGO, HSK, HBE⟩ := hrel
    have hj0 : (0 : Int) ≤ (j : Int) := Int.natCast_nonneg _
    have hLL : (0 : Int) ≤ (L : Int) := Int.natCast_nonneg _
    by_cases hlt : (j : Int) < (m : Int)
    · have hjl : j < es.length := by rw [← HM.out]; omega
      obtain ⟨b2, o2, rfl, hbl, hcell0⟩ := HC.out j hjl
      have hcell := hcell0.kept HBE.out hbl
      have HDR : Hid (es.drop j = es.getD j Ent0 :: es.drop (j + 1)) := by
        show _ = _
        rw [List.drop_eq_getElem_cons hjl]
        congr 1
        simp [List.getD, hjl]
      have HOKX : Hid ((es.getD j Ent0).ok) := HOKS.out _ (by rw [show es.getD j Ent0 = es[j] by simp [List.getD, hjl]]; exact List.getElem_mem hjl)
      generalize es.getD j Ent0 = x at *
      have HIFF := Lib.hid (next_iff (x := x) (st := sk))
      rw [← HSK.out.1, ← HSK.out.2] at HIFF
      have HGOE : Hid (R = if x = sk.next x.body then goesL H (sk.push H x) (es.drop (j + 1)) else false) := by
        show _ = _
        rw [← HGO.out, HDR.out]
        rfl
      have CH := Lib.hid (fun w => refFeedHash_any hS x HOKX.out w)
      generalize hht : H x.text = ht at CH
      have HHT := Lib.hid hht
      obtain ⟨xs, xp, xb⟩ := x
      obtain ⟨y0, y1, y2⟩ := hcell
      unfold Fd.Ent.val at CH
      simp only at y0 y1 y2 CH
      clear hjl hbl hcell0 hht
      by_cases h0 : xs = (L : Int) + 1
      · subst h0
        by_cases h1 : xp = hd
        · subst h1
          have hq : (xp.toList == xp.toList) = true := by simp
          have hq2 : (xp.toList != xp.toList) = false := by simp
          have HGO2 : Hid (goesL H (sk.push H ⟨(L : Int) + 1, xp, xb⟩) (es.drop (j + 1)) = R) := by
            show _ = _
            rw [HGOE.out, if_pos (HIFF.out.2 ⟨rfl, rfl⟩)]
          have HSK2 : Hid (L + 1 = (sk.push H ⟨(L : Int) + 1, xp, xb⟩).all.length ∧ ht = (sk.push H ⟨(L : Int) + 1, xp, xb⟩).head) := by
            refine ⟨?_, HHT.out.symm⟩
            show _ = (sk.all ++ [_]).length
            rw [List.length_append, ← HSK.out.1]
            rfl
          go_wp2_with fail
          refine (CH.out _).mono ?_
          rintro e w3 ⟨rfl, hb3⟩
          have HB3 : Hid (Below w.heap.size w w3) := HBE.out.trans (hb3.mono HBE.out.size)
          clear hb3 CH HBE y0 y1 y2 hq hq2 HGOE HIFF HGO HSK
          go_wp2_with fail
          go_roundw
          case rel => exact ⟨j + 1, L + 1, _, ht, by omega, by omega, by go_num, rfl, by go_num, HGO2, HSK2, HB3⟩
          case measure => simp [intOf]; omega
        · have hq : (xp.toList == hd.toList) = false := by rw [beq_eq_false_iff_ne]; exact toList_ne h1
          have hq2 : (xp.toList != hd.toList) = true := by unfold bne; rw [hq]; rfl
          have HNO : Hid (R = false) := by show _ = _; rw [HGOE.out, if_neg (fun h => h1 (HIFF.out.1 h).2)]
          clear h1 HGOE HIFF CH
          go_wp2_with fail
          go_ret
          rw [HNO.out]
          exact ⟨rfl, HBE.out⟩
      · have hq : (xs == (L : Int) + 1) = false := by rw [beq_eq_false_iff_ne]; exact h0
        have hq2 : (xs != (L : Int) + 1) = true := by unfold bne; rw [hq]; rfl
        have HNO : Hid (R = false) := by show _ = _; rw [HGOE.out, if_neg (fun h => h0 (HIFF.out.1 h).1)]
        clear h0 HGOE HIFF CH
        go_wp2_with fail
        go_ret
        rw [HNO.out]
        exact ⟨rfl, HBE.out⟩
    · obtain rfl : j = m := by omega
      have HYES : Hid (R = true) := by
        show _ = _
        rw [← HGO.out, List.drop_of_length_le (by rw [← HM.out]; exact Nat.le_refl _)]
        rfl
      clear hlt
      go_wp2_with fail
      go_ret
      rw [HYES.out]
      exact ⟨rfl, HBE.out⟩
/-- The document's Head. -/
def headL (H : ByteArray → ByteArray) (l : List Fd.Ent) : ByteArray := if l = [] then ByteArray.empty else H (lastE l).text
set_option maxRecDepth 100000 in
set_option maxHeartbeats 2000000 in
theorem refHead_any {H : ByteArray → ByteArray} (hS : RefLaw H) (es : List Fd.Ent) (eo : Option Addr) (cap : Nat) (w : World) (hc : EntsAt w eo es) (hok : ∀ e ∈ es, e.ok) (hl : es.length ≤ 1000000) :
    Calls Try.prog 46 #[.slice eo es.length cap] w fun e w' => e = .returned (.string (headL H es)) ∧ Below w.heap.size w w' := by
  unfold headL
  by_cases hn : es = []
  · subst hn
    rw [if_pos rfl]
    simp only [List.length_nil]
    clear hc hok
    go_enter Try.func46, Try.ntmps46
    go_wp2_with fail
    go_ret
    exact ⟨rfl, Below.refl _ _⟩
  · rw [if_neg hn]
    have hl0 : 0 < es.length := List.length_pos_iff.2 hn
    obtain ⟨b, off, rfl, hbl, hcell⟩ := hc (es.length - 1) (by omega)
    have hmem : es.getD (es.length - 1) Ent0 ∈ es := by
      rw [show es.getD (es.length - 1) Ent0 = es[es.length - 1] by simp [List.getD, show es.length - 1 < es.length by omega]]
      exact List.getElem_mem _
    have CH := Lib.hid (fun w => refFeedHash_any hS (lastE es) (hok _ hmem) w)
    have hcell : EntAt w b (off + (es.length - 1) * 3) (lastE es) := hcell
    generalize H (lastE es).text = ht at *
    generalize lastE es = x at *
    obtain ⟨na, hna⟩ : ∃ na : Nat, (es.length : Int) - 1 = (na : Int) := ⟨es.length - 1, by omega⟩
    rw [show es.length - 1 = na by omega] at hcell
    have hn6 : (es.length : Int) ≤ 1000000 := by omega
    have hnal : (na : Int) < (es.length : Int) := by omega
    have hna0 : (0 : Int) ≤ (na : Int) := Int.natCast_nonneg _
    have hz : ((es.length : Int) == 0) = false := by rw [beq_eq_false_iff_ne]; omega
    have qa : IntKind.i64.wrap (na : Int) = (na : Int) := IntWalk.i64_in _ ⟨by omega, by omega⟩
    generalize es.length = n at *
    obtain ⟨xs, xp, xb⟩ := x
    obtain ⟨y0, y1, y2⟩ := hcell
    unfold Fd.Ent.val at CH
    simp only at y0 y1 y2 CH
    clear hc hok hmem hbl hn hl hl0
    go_enter Try.func46, Try.ntmps46
    go_wp2_with fail
    refine (CH.out _).mono ?_
    rintro e w3 ⟨rfl, hb3⟩
    go_wp2_with fail
    go_ret
    exact ⟨rfl, hb3⟩
end Go.Proofs.Ytbajgpbekanodaa
namespace Go.Proofs.Ytbajgpbekanodaa
open Go.RowKit

set_option maxRecDepth 100000 in
set_option maxHeartbeats 2000000 in
theorem refClashF_1 (ao bo : Option Addr) (m c1 c2 : Nat) (w : World)  :
    Calls Try.prog 50 #[.slice ao 0 c1, .slice bo m c2] w fun e w' => e = .returned (.tuple #[.string ByteArray.empty, .string ByteArray.empty, .bool false]) ∧ Below w.heap.size w w' := by
  have HB0 : Hid (Below w.heap.size w w) := Below.refl _ _
  go_enter Try.func50, Try.ntmps50
  go_wp2_with fail
  go_ret3
  exact ⟨rfl, HB0.out⟩

set_option maxRecDepth 100000 in
set_option maxHeartbeats 2000000 in
theorem refClashF_2 (ao bo : Option Addr) (n c1 c2 : Nat) (w : World) (hn : ((n : Int) == 0) = false) :
    Calls Try.prog 50 #[.slice ao n c1, .slice bo 0 c2] w fun e w' => e = .returned (.tuple #[.string ByteArray.empty, .string ByteArray.empty, .bool false]) ∧ Below w.heap.size w w' := by
  have HB0 : Hid (Below w.heap.size w w) := Below.refl _ _
  go_enter Try.func50, Try.ntmps50
  go_wp2_with fail
  go_ret3
  exact ⟨rfl, HB0.out⟩

set_option maxRecDepth 100000 in
set_option maxHeartbeats 2000000 in
theorem refClashF_3 (ao bo : Option Addr) (n m c1 c2 : Nat) (w : World) (hn : ((n : Int) == 0) = false)
    (hm : ((m : Int) == 0) = false)
    (CGA : Hid (∀ w', Below w.heap.size w w' → Calls Try.prog 72 #[.int .i64 0, .string ByteArray.empty, .slice ao n c1] w' fun e w'' => e = .returned (.bool false) ∧ Below w'.heap.size w' w'')) :
    Calls Try.prog 50 #[.slice ao n c1, .slice bo m c2] w fun e w' => e = .returned (.tuple #[.string ByteArray.empty, .string ByteArray.empty, .bool false]) ∧ Below w.heap.size w w' := by
  have HB0 : Hid (Below w.heap.size w w) := Below.refl _ _
  go_enter Try.func50, Try.ntmps50
  go_wp2_with fail
  refine (CGA.out _ HB0.out).mono ?_
  rintro e w1 ⟨rfl, hbb⟩
  have HB1 : Hid (Below w.heap.size w w1) := HB0.out.trans (hbb.mono HB0.out.size)
  clear hbb CGA HB0
  go_wp2_with fail
  go_ret3
  exact ⟨rfl, HB1.out⟩

set_option maxRecDepth 100000 in
set_option maxHeartbeats 2000000 in
theorem refClashF_4 (ao bo : Option Addr) (n m c1 c2 : Nat) (w : World) (hn : ((n : Int) == 0) = false)
    (hm : ((m : Int) == 0) = false)
    (CGA : Hid (∀ w', Below w.heap.size w w' → Calls Try.prog 72 #[.int .i64 0, .string ByteArray.empty, .slice ao n c1] w' fun e w'' => e = .returned (.bool true) ∧ Below w'.heap.size w' w''))
    (CGB : Hid (∀ w', Below w.heap.size w w' → Calls Try.prog 72 #[.int .i64 0, .string ByteArray.empty, .slice bo m c2] w' fun e w'' => e = .returned (.bool false) ∧ Below w'.heap.size w' w'')) :
    Calls Try.prog 50 #[.slice ao n c1, .slice bo m c2] w fun e w' => e = .returned (.tuple #[.string ByteArray.empty, .string ByteArray.empty, .bool false]) ∧ Below w.heap.size w w' := by
  have HB0 : Hid (Below w.heap.size w w) := Below.refl _ _
  go_enter Try.func50, Try.ntmps50
  go_wp2_with fail
  refine (CGA.out _ HB0.out).mono ?_
  rintro e w1 ⟨rfl, hbb⟩
  have HB1 : Hid (Below w.heap.size w w1) := HB0.out.trans (hbb.mono HB0.out.size)
  clear hbb CGA HB0
  go_wp2_with fail
  refine (CGB.out _ HB1.out).mono ?_
  rintro e w2 ⟨rfl, hbb⟩
  have HB2 : Hid (Below w.heap.size w w2) := HB1.out.trans (hbb.mono HB1.out.size)
  clear hbb CGB HB1
  go_wp2_with fail
  go_ret3
  exact ⟨rfl, HB2.out⟩

set_option maxRecDepth 100000 in
set_option maxHeartbeats 2000000 in
theorem refClashF_5 (ao bo : Option Addr) (n m c1 c2 : Nat) (ha hb : ByteArray) (w : World) (hn : ((n : Int) == 0) = false)
    (hm : ((m : Int) == 0) = false)
    (CGA : Hid (∀ w', Below w.heap.size w w' → Calls Try.prog 72 #[.int .i64 0, .string ByteArray.empty, .slice ao n c1] w' fun e w'' => e = .returned (.bool true) ∧ Below w'.heap.size w' w''))
    (CGB : Hid (∀ w', Below w.heap.size w w' → Calls Try.prog 72 #[.int .i64 0, .string ByteArray.empty, .slice bo m c2] w' fun e w'' => e = .returned (.bool true) ∧ Below w'.heap.size w' w''))
    (CHA : Hid (∀ w', Below w.heap.size w w' → Calls Try.prog 46 #[.slice ao n c1] w' fun e w'' => e = .returned (.string ha) ∧ Below w'.heap.size w' w''))
    (CHB : Hid (∀ w', Below w.heap.size w w' → Calls Try.prog 46 #[.slice bo m c2] w' fun e w'' => e = .returned (.string hb) ∧ Below w'.heap.size w' w''))
    (hne : (ha.toList == hb.toList) = false) :
    Calls Try.prog 50 #[.slice ao n c1, .slice bo m c2] w fun e w' => e = .returned (.tuple #[.string ByteArray.empty, .string ByteArray.empty, .bool false]) ∧ Below w.heap.size w w' := by
  have hne2 : (ha.toList != hb.toList) = true := by unfold bne; rw [hne]; rfl
  have HB0 : Hid (Below w.heap.size w w) := Below.refl _ _
  go_enter Try.func50, Try.ntmps50
  go_wp2_with fail
  refine (CGA.out _ HB0.out).mono ?_
  rintro e w1 ⟨rfl, hbb⟩
  have HB1 : Hid (Below w.heap.size w w1) := HB0.out.trans (hbb.mono HB0.out.size)
  clear hbb CGA HB0
  go_wp2_with fail
  refine (CGB.out _ HB1.out).mono ?_
  rintro e w2 ⟨rfl, hbb⟩
  have HB2 : Hid (Below w.heap.size w w2) := HB1.out.trans (hbb.mono HB1.out.size)
  clear hbb CGB HB1
  go_wp2_with fail
  refine (CHA.out _ HB2.out).mono ?_
  rintro e w3 ⟨rfl, hbb⟩
  have HB3 : Hid (Below w.heap.size w w3) := HB2.out.trans (hbb.mono HB2.out.size)
  clear hbb CHA HB2
  go_wp2_with fail
  refine (CHB.out _ HB3.out).mono ?_
  rintro e w4 ⟨rfl, hbb⟩
  have HB4 : Hid (Below w.heap.size w w4) := HB3.out.trans (hbb.mono HB3.out.size)
  clear hbb CHB HB3
  go_wp2_with fail
  go_ret3
  exact ⟨rfl, HB4.out⟩

def sliceLen (v : Value) : Nat := match v with | .slice _ l _ => l | _ => 0
set_option maxRecDepth 100000 in
set_option maxHeartbeats 8000000 in
theorem refClashF_yes (es fs : List Fd.Ent) (n m c1 c2 b1 o1 b2 o2 : Nat) (ha : ByteArray) (RS RT : ByteArray) (RB : Bool) (w : World) (hn : ((n : Int) == 0) = false) (hm : ((m : Int) == 0) = false)
    (hen : n = es.length) (hfm : m = fs.length) (hc1 : (n : Int) ≤ (c1 : Int)) (hc2 : (m : Int) ≤ (c2 : Int))
    (CGA : Hid (∀ w', Below w.heap.size w w' → Calls Try.prog 72 #[.int .i64 0, .string ByteArray.empty, .slice (some ⟨b1, o1, none⟩) n c1] w' fun e w'' => e = .returned (.bool true) ∧ Below w'.heap.size w' w''))
    (CGB : Hid (∀ w', Below w.heap.size w w' → Calls Try.prog 72 #[.int .i64 0, .string ByteArray.empty, .slice (some ⟨b2, o2, none⟩) m c2] w' fun e w'' => e = .returned (.bool true) ∧ Below w'.heap.size w' w''))
    (CHA : Hid (∀ w', Below w.heap.size w w' → Calls Try.prog 46 #[.slice (some ⟨b1, o1, none⟩) n c1] w' fun e w'' => e = .returned (.string ha) ∧ Below w'.heap.size w' w''))
    (CHB : Hid (∀ w', Below w.heap.size w w' → Calls Try.prog 46 #[.slice (some ⟨b2, o2, none⟩) m c2] w' fun e w'' => e = .returned (.string ha) ∧ Below w'.heap.size w' w''))
    (hnl : (n : Int) ≤ 100000) (hml : (m : Int) ≤ 100000)
    (HEA : Hid (EntsAt w (some ⟨b1, o1, none⟩) es)) (HEB : Hid (EntsAt w (some ⟨b2, o2, none⟩) fs)) (HOA : Hid (∀ e ∈ es, e.ok)) (HOB : Hid (∀ e ∈ fs, e.ok))
    (HRN : Hid (firstDiff es.reverse fs.reverse = none → RS = ByteArray.empty ∧ RT = ByteArray.empty ∧ RB = false))
    (HRY : Hid (∀ x y, firstDiff es.reverse fs.reverse = some (x, y) → RS = x.text ∧ RT = y.text ∧ RB = true)) :
    Calls Try.prog 50 #[.slice (some ⟨b1, o1, none⟩) n c1, .slice (some ⟨b2, o2, none⟩) m c2] w fun e w' => e = .returned (.tuple #[.string RS, .string RT, .bool RB]) ∧ Below w.heap.size w w' := by
  have hne : (ha.toList == ha.toList) = true := by simp
  have hne2 : (ha.toList != ha.toList) = false := by simp
  have HEN := Lib.hid hen
  have HFM := Lib.hid hfm
  clear hen hfm
  have HB0 : Hid (Below w.heap.size w w) := Below.refl _ _
  go_enter Try.func50, Try.ntmps50
  go_wp2_with fail
  refine (CGA.out _ HB0.out).mono ?_
  rintro e w1 ⟨rfl, hbb⟩
  have HB1 : Hid (Below w.heap.size w w1) := HB0.out.trans (hbb.mono HB0.out.size)
  clear hbb CGA HB0
  go_wp2_with fail
  refine (CGB.out _ HB1.out).mono ?_
  rintro e w2 ⟨rfl, hbb⟩
  have HB2 : Hid (Below w.heap.size w w2) := HB1.out.trans (hbb.mono HB1.out.size)
  clear hbb CGB HB1
  go_wp2_with fail
  refine (CHA.out _ HB2.out).mono ?_
  rintro e w3 ⟨rfl, hbb⟩
  have HB3 : Hid (Below w.heap.size w w3) := HB2.out.trans (hbb.mono HB2.out.size)
  clear hbb CHA HB2
  go_wp2_with fail
  refine (CHB.out _ HB3.out).mono ?_
  rintro e w4 ⟨rfl, hbb⟩
  have HB4 : Hid (Below w.heap.size w w4) := HB3.out.trans (hbb.mono HB3.out.size)
  clear hbb CHB HB3
  go_wp2_with fail
  clear hne hne2
  go_loopw [0, 1] (fun va vb wr => ∃ k p q : Nat, Hid (n = p + k ∧ m = q + k) ∧ va = .slice (some ⟨b1, o1, none⟩) p c1 ∧ vb = .slice (some ⟨b2, o2, none⟩) q c2 ∧ Hid (firstDiff es.reverse fs.reverse = firstDiff (es.reverse.drop k) (fs.reverse.drop k)) ∧ Hid (Below w.heap.size w wr)) (fun va _ _ => sliceLen va)
  case atStart => exact ⟨0, n, m, ⟨rfl, rfl⟩, rfl, rfl, rfl, HB4⟩
  case round =>
    clear HB4
    obtain ⟨k, p, q, HKN, rfl, rfl, HFD, HBE⟩ := hrel
    have hp6 : (p : Int) ≤ 100000 := by have h := HKN.out.1; omega
    have hq6 : (q : Int) ≤ 100000 := by have h := HKN.out.2; omega
    have hpc : (p : Int) ≤ (c1 : Int) := by have h := HKN.out.1; omega
    have hqc : (q : Int) ≤ (c2 : Int) := by have h := HKN.out.2; omega
    have hk0 : (0 : Int) ≤ (k : Int) := Int.natCast_nonneg _
    by_cases hlt : (0 : Int) < (p : Int) ∧ (0 : Int) < (q : Int)
    · obtain ⟨hl1, hl2⟩ := hlt
      obtain ⟨ja, hja⟩ : ∃ ja : Nat, (p : Int) - 1 = (ja : Int) := ⟨p - 1, by omega⟩
      obtain ⟨jb, hjb⟩ : ∃ jb : Nat, (q : Int) - 1 = (jb : Int) := ⟨q - 1, by omega⟩
      have hjal : (ja : Int) < (p : Int) := by omega
      have hjbl : (jb : Int) < (q : Int) := by omega
      have hja0 : (0 : Int) ≤ (ja : Int) := Int.natCast_nonneg _
      have hjb0 : (0 : Int) ≤ (jb : Int) := Int.natCast_nonneg _
      have hjc1 : (ja : Int) ≤ (c1 : Int) := by omega
      have hjc2 : (jb : Int) ≤ (c2 : Int) := by omega
      have hcz1 : ¬ c1 = 0 := by omega
      have hcz2 : ¬ c2 = 0 := by omega
      have HST := Lib.hid (firstDiff_step es fs k (by have h := HKN.out.1; rw [← HEN.out]; omega) (by have h := HKN.out.2; rw [← HFM.out]; omega))
      rw [← HEN.out, ← HFM.out, show n - 1 - k = ja by have h := HKN.out.1; omega, show m - 1 - k = jb by have h := HKN.out.2; omega] at HST
      obtain ⟨_, _, hq1, hw1, hce1⟩ := HEA.out ja (by have h := HKN.out.1; rw [← HEN.out]; omega)
      cases hq1
      obtain ⟨_, _, hq2, hw2, hce2⟩ := HEB.out jb (by have h := HKN.out.2; rw [← HFM.out]; omega)
      cases hq2
      have hce1 := hce1.kept HBE.out hw1
      have hce2 := hce2.kept HBE.out hw2
      have hqa : IntKind.i64.wrap (ja : Int) = (ja : Int) := IntWalk.i64_in _ ⟨by omega, by omega⟩
      have hqb : IntKind.i64.wrap (jb : Int) = (jb : Int) := IntWalk.i64_in _ ⟨by omega, by omega⟩
      have HO1 := Lib.hid (HOA.out (es.getD ja Ent0) (by rw [show es.getD ja Ent0 = es[ja]'(by have h := HKN.out.1; rw [← HEN.out]; omega) by rw [List.getD_eq_getElem?_getD, List.getElem?_eq_getElem]; rfl]; exact List.getElem_mem _))
      have HO2 := Lib.hid (HOB.out (fs.getD jb Ent0) (by rw [show fs.getD jb Ent0 = fs[jb]'(by have h := HKN.out.2; rw [← HFM.out]; omega) by rw [List.getD_eq_getElem?_getD, List.getElem?_eq_getElem]; rfl]; exact List.getElem_mem _))
      generalize es.getD ja Ent0 = x at *
      generalize fs.getD jb Ent0 = y at *
      have heq := equal_ent x y
      have hgd := guard_ent
      have CTX := Lib.hid (fun w => refFeedText_any x HO1.out w)
      have CTY := Lib.hid (fun w => refFeedText_any y HO2.out w)
      have hw1 := Nat.lt_of_lt_of_le hw1 HBE.out.size
      have hw2 := Nat.lt_of_lt_of_le hw2 HBE.out.size
      have hw3 : ¬ b1 = wr.heap.size := by omega
      have hw4 : ¬ b2 = wr.heap.size := by omega
      have hw5 : ¬ b1 = wr.heap.size + 1 := by omega
      have hw6 : ¬ b2 = wr.heap.size + 1 := by omega
      obtain ⟨us, up, ub⟩ := x
      obtain ⟨vs, vp, vb⟩ := y
      obtain ⟨hx0, hx1, hx2⟩ := hce1
      obtain ⟨hy0, hy1, hy2⟩ := hce2
      unfold Fd.Ent.val at heq CTX CTY
      simp only at hx0 hx1 hx2 hy0 hy1 hy2 heq CTX CTY
      go_upto_region 4 with fail
      have hB1 : ∀ o1' o2' : Obj, Below wr.heap.size wr ((wr.alloc o1').alloc o2').drew := fun o1' o2' => (((Below.refl wr.heap.size wr).alloc (Nat.le_refl _) o1').alloc (by simp) o2').drew
      have hE1 : ∀ (e : Fd.Ent) (o2' : Obj), EntAt ((wr.alloc (.cells #[.int .i64 e.seq, .string e.prev, .string e.body] 82)).alloc o2').drew wr.heap.size 0 e := fun e o2' => by
        have h : EntAt (wr.alloc (.cells #[.int .i64 e.seq, .string e.prev, .string e.body] 82)) wr.heap.size 0 e := ⟨cells_new wr [.int .i64 e.seq, .string e.prev, .string e.body] _ 0 _ rfl, cells_new wr [.int .i64 e.seq, .string e.prev, .string e.body] _ 1 _ rfl, cells_new wr [.int .i64 e.seq, .string e.prev, .string e.body] _ 2 _ rfl⟩
        exact h.kept ((((Below.refl (wr.alloc (.cells #[.int .i64 e.seq, .string e.prev, .string e.body] 82)).heap.size _).alloc (Nat.le_refl _) o2')).drew) (by simp)
      have hE2 : ∀ (e : Fd.Ent) (o1' : Obj), EntAt ((wr.alloc o1').alloc (.cells #[.int .i64 e.seq, .string e.prev, .string e.body] 82)).drew (wr.heap.size + 1) 0 e := fun e o1' => by
        have hs : (wr.alloc o1').heap.size = wr.heap.size + 1 := by simp
        have h : EntAt ((wr.alloc o1').alloc (.cells #[.int .i64 e.seq, .string e.prev, .string e.body] 82)) (wr.alloc o1').heap.size 0 e := ⟨cells_new _ [.int .i64 e.seq, .string e.prev, .string e.body] _ 0 _ rfl, cells_new _ [.int .i64 e.seq, .string e.prev, .string e.body] _ 1 _ rfl, cells_new _ [.int .i64 e.seq, .string e.prev, .string e.body] _ 2 _ rfl⟩
        rw [hs] at h
        exact h
      have HB1 := Lib.hid hB1
      have HE1 := Lib.hid hE1
      have HE2 := Lib.hid hE2
      clear hB1 hE1 hE2
      generalize htx : Fd.Ent.text ⟨us, up, ub⟩ = tx at CTX
      generalize hty : Fd.Ent.text ⟨vs, vp, vb⟩ = ty at CTY
      have HTX := Lib.hid htx
      have HTY := Lib.hid hty
      clear htx hty
      go_region
      have hfx := HE1.out ⟨us, up, ub⟩ (.cells #[.int .i64 vs, .string vp, .string vb] 82)
      have hfy := HE2.out ⟨vs, vp, vb⟩ (.cells #[.int .i64 us, .string up, .string ub] 82)
      have hbb := HB1.out (.cells #[.int .i64 us, .string up, .string ub] 82) (.cells #[.int .i64 vs, .string vp, .string vb] 82)
      have HW6 : Hid (Below w.heap.size w _) := HBE.out.trans (hbb.mono HBE.out.size)
      clear HB1 HE1 HE2 hbb hw1 hw2 hw3 hw4 hw5 hw6 hx0 hx1 hx2 hy0 hy1 hy2 HBE
      simp only at hfx hfy
      generalize World.drew _ = w6 at *
      generalize wr.heap.size + 1 = Y at *
      generalize wr.heap.size = X at *
      rotate_left
      have hfx := HE2.out ⟨us, up, ub⟩ (.cells #[.int .i64 vs, .string vp, .string vb] 82)
      have hfy := HE1.out ⟨vs, vp, vb⟩ (.cells #[.int .i64 us, .string up, .string ub] 82)
      have hbb := HB1.out (.cells #[.int .i64 vs, .string vp, .string vb] 82) (.cells #[.int .i64 us, .string up, .string ub] 82)
      have HW6 : Hid (Below w.heap.size w _) := HBE.out.trans (hbb.mono HBE.out.size)
      clear HB1 HE1 HE2 hbb hw1 hw2 hw3 hw4 hw5 hw6 hx0 hx1 hx2 hy0 hy1 hy2 HBE
      simp only at hfx hfy
      generalize World.drew _ = w6 at *
      generalize wr.heap.size + 1 = X at *
      generalize wr.heap.size = Y at *
      rotate_left
      all_goals
        obtain ⟨hz0, hz1, hz2⟩ := hfx
        obtain ⟨hu0, hu1, hu2⟩ := hfy
        simp only at hz0 hz1 hz2 hu0 hu1 hu2
      all_goals by_cases hxy : (⟨us, up, ub⟩ : Fd.Ent) = ⟨vs, vp, vb⟩
      case pos =>
        rw [decide_eq_true hxy] at heq
        have HST2 : Hid (firstDiff es.reverse fs.reverse = firstDiff (es.reverse.drop (k + 1)) (fs.reverse.drop (k + 1))) := by show _ = _; rw [HFD.out, HST.out, if_pos hxy]
        clear hxy
        go_wp2_with fail
        go_roundw
        case rel => exact ⟨k + 1, ja, jb, ⟨by have h := HKN.out.1; omega, by have h := HKN.out.2; omega⟩, rfl, rfl, HST2, HW6⟩
        case measure => simp [sliceLen]; omega
      case neg =>
        rw [decide_eq_false hxy] at heq
        have HST2 : Hid (RS = tx ∧ RT = ty ∧ RB = true) := by
          have h := HRY.out _ _ ((HFD.out.trans HST.out).trans (if_neg hxy))
          rw [HTX.out, HTY.out] at h
          exact h
        obtain ⟨rfl, rfl, rfl⟩ := HST2.out
        clear hxy HST2
        go_wp2_with fail
        refine wp_region_puts2 (R := fun qi w' v => v = [Value.agg #[.int .i64 us, .string up, .string ub], .string RS, .agg #[.int .i64 vs, .string vp, .string vb], .string RT, .string RS, .string RT, .bool true].getD qi undef)
          (by kernel_rfl) (by kernel_rfl) (by kernel_rfl) ?hRR (by kernel_rfl) (steps_of ?hs) ?hd
        case hRR =>
          intro qi w1 w2 v hb hv
          exact hv
        case hs =>
          refine ⟨?_, ?_, ?_, ?_, ?_, ?_, ?_, trivial⟩
          · refine stepOk_value rfl fun a w5 ht => ?_
            have e7 : a.tmps[7]?.getD undef = .pointer (some ⟨X, 0, none⟩) := ht.old' 7 (.pointer (some ⟨X, 0, none⟩)) (by kernel_rfl) rfl
            have hc0 := (ht.below.cell (p := ⟨X, 0, none⟩) (World.block_lt_of_cell? _ _ hz0)).trans hz0
            have hc1 := (ht.below.cell (p := ⟨X, 1, none⟩) (World.block_lt_of_cell? _ _ hz1)).trans hz1
            have hc2 := (ht.below.cell (p := ⟨X, 2, none⟩) (World.block_lt_of_cell? _ _ hz2)).trans hz2
            exact ⟨Value.agg #[.int .i64 us, .string up, .string ub], w5, by go_simp, Below.refl _ _, rfl⟩
          · refine stepOk_call rfl fun a w5 ht => ?_
            have e57 : a.tmps[57]?.getD undef = Value.agg #[.int .i64 us, .string up, .string ub] := ht.dep' 0 57 (by kernel_rfl) rfl
            refine ⟨74, #[.agg #[.int .i64 us, .string up, .string ub]], by go_simp, (CTX.out w5).mono ?_⟩
            rintro e w' ⟨rfl, hb⟩
            exact ⟨_, rfl, hb, rfl⟩
          · refine stepOk_value rfl fun a w5 ht => ?_
            have e8 : a.tmps[8]?.getD undef = .pointer (some ⟨Y, 0, none⟩) := ht.old' 8 (.pointer (some ⟨Y, 0, none⟩)) (by kernel_rfl) rfl
            have hc0 := (ht.below.cell (p := ⟨Y, 0, none⟩) (World.block_lt_of_cell? _ _ hu0)).trans hu0
            have hc1 := (ht.below.cell (p := ⟨Y, 1, none⟩) (World.block_lt_of_cell? _ _ hu1)).trans hu1
            have hc2 := (ht.below.cell (p := ⟨Y, 2, none⟩) (World.block_lt_of_cell? _ _ hu2)).trans hu2
            exact ⟨.agg #[.int .i64 vs, .string vp, .string vb], w5, by go_simp, Below.refl _ _, rfl⟩
          · refine stepOk_call rfl fun a w5 ht => ?_
            have e59 : a.tmps[59]?.getD undef = .agg #[.int .i64 vs, .string vp, .string vb] := ht.dep' 2 59 (by kernel_rfl) rfl
            refine ⟨74, #[.agg #[.int .i64 vs, .string vp, .string vb]], by go_simp, (CTY.out w5).mono ?_⟩
            rintro e w' ⟨rfl, hb⟩
            exact ⟨_, rfl, hb, rfl⟩
          · refine stepOk_value rfl fun a w5 ht => ?_
            have e58 : a.tmps[58]?.getD undef = .string RS := ht.dep' 1 58 (by kernel_rfl) rfl
            exact ⟨.string RS, w5, by go_simp, Below.refl _ _, rfl⟩
          · refine stepOk_value rfl fun a w5 ht => ?_
            have e60 : a.tmps[60]?.getD undef = .string RT := ht.dep' 3 60 (by kernel_rfl) rfl
            exact ⟨.string RT, w5, by go_simp, Below.refl _ _, rfl⟩
          · refine stepOk_value rfl fun a w5 ht => ?_
            exact ⟨.bool true, w5, by go_simp, Below.refl _ _, rfl⟩
        case hd =>
          intro vs w8 hl hb8 hvs
          have hl : vs.length = 7 := hl
          obtain ⟨v0, r0, rfl, l0⟩ := uncons vs hl
          obtain ⟨v1, r1, rfl, l1⟩ := uncons r0 l0
          obtain ⟨v2, r2, rfl, l2⟩ := uncons r1 l1
          obtain ⟨v3, r3, rfl, l3⟩ := uncons r2 l2
          obtain ⟨v4, r4, rfl, l4⟩ := uncons r3 l3
          obtain ⟨v5, r5, rfl, l5⟩ := uncons r4 l4
          obtain ⟨v6, r6, rfl, l6⟩ := uncons r5 l5
          obtain rfl := List.eq_nil_of_length_eq_zero l6
          have h4 : v4 = .string RS := hvs 4 (by decide)
          subst h4
          have h5 : v5 = .string RT := hvs 5 (by decide)
          subst h5
          have h6 : v6 = .bool true := hvs 6 (by decide)
          subst h6
          clear hvs
          simp only [puts, List.map, go_sem, List.setIfInBounds_toArray, List.set_cons_succ, List.set_cons_zero]
          have HW8 : Hid (Below w.heap.size w w8) := HW6.out.trans (hb8.mono HW6.out.size)
          clear hb8 HW6 hz0 hz1 hz2 hu0 hu1 hu2 heq hgd CTX CTY
          go_wp2_with fail
          go_ret3
          exact ⟨rfl, HW8.out⟩
      case pos =>
        rw [decide_eq_true hxy] at heq
        have HST2 : Hid (firstDiff es.reverse fs.reverse = firstDiff (es.reverse.drop (k + 1)) (fs.reverse.drop (k + 1))) := by show _ = _; rw [HFD.out, HST.out, if_pos hxy]
        clear hxy
        go_wp2_with fail
        go_roundw
        case rel => exact ⟨k + 1, ja, jb, ⟨by have h := HKN.out.1; omega, by have h := HKN.out.2; omega⟩, rfl, rfl, HST2, HW6⟩
        case measure => simp [sliceLen]; omega
      case neg =>
        rw [decide_eq_false hxy] at heq
        have HST2 : Hid (RS = tx ∧ RT = ty ∧ RB = true) := by
          have h := HRY.out _ _ ((HFD.out.trans HST.out).trans (if_neg hxy))
          rw [HTX.out, HTY.out] at h
          exact h
        obtain ⟨rfl, rfl, rfl⟩ := HST2.out
        clear hxy HST2
        go_wp2_with fail
        refine wp_region_puts2 (R := fun qi w' v => v = [Value.agg #[.int .i64 us, .string up, .string ub], .string RS, .agg #[.int .i64 vs, .string vp, .string vb], .string RT, .string RS, .string RT, .bool true].getD qi undef)
          (by kernel_rfl) (by kernel_rfl) (by kernel_rfl) ?hRR (by kernel_rfl) (steps_of ?hs) ?hd
        case hRR =>
          intro qi w1 w2 v hb hv
          exact hv
        case hs =>
          refine ⟨?_, ?_, ?_, ?_, ?_, ?_, ?_, trivial⟩
          · refine stepOk_value rfl fun a w5 ht => ?_
            have e7 : a.tmps[7]?.getD undef = .pointer (some ⟨X, 0, none⟩) := ht.old' 7 (.pointer (some ⟨X, 0, none⟩)) (by kernel_rfl) rfl
            have hc0 := (ht.below.cell (p := ⟨X, 0, none⟩) (World.block_lt_of_cell? _ _ hz0)).trans hz0
            have hc1 := (ht.below.cell (p := ⟨X, 1, none⟩) (World.block_lt_of_cell? _ _ hz1)).trans hz1
            have hc2 := (ht.below.cell (p := ⟨X, 2, none⟩) (World.block_lt_of_cell? _ _ hz2)).trans hz2
            exact ⟨Value.agg #[.int .i64 us, .string up, .string ub], w5, by go_simp, Below.refl _ _, rfl⟩
          · refine stepOk_call rfl fun a w5 ht => ?_
            have e57 : a.tmps[57]?.getD undef = Value.agg #[.int .i64 us, .string up, .string ub] := ht.dep' 0 57 (by kernel_rfl) rfl
            refine ⟨74, #[.agg #[.int .i64 us, .string up, .string ub]], by go_simp, (CTX.out w5).mono ?_⟩
            rintro e w' ⟨rfl, hb⟩
            exact ⟨_, rfl, hb, rfl⟩
          · refine stepOk_value rfl fun a w5 ht => ?_
            have e8 : a.tmps[8]?.getD undef = .pointer (some ⟨Y, 0, none⟩) := ht.old' 8 (.pointer (some ⟨Y, 0, none⟩)) (by kernel_rfl) rfl
            have hc0 := (ht.below.cell (p := ⟨Y, 0, none⟩) (World.block_lt_of_cell? _ _ hu0)).trans hu0
            have hc1 := (ht.below.cell (p := ⟨Y, 1, none⟩) (World.block_lt_of_cell? _ _ hu1)).trans hu1
            have hc2 := (ht.below.cell (p := ⟨Y, 2, none⟩) (World.block_lt_of_cell? _ _ hu2)).trans hu2
            exact ⟨.agg #[.int .i64 vs, .string vp, .string vb], w5, by go_simp, Below.refl _ _, rfl⟩
          · refine stepOk_call rfl fun a w5 ht => ?_
            have e59 : a.tmps[59]?.getD undef = .agg #[.int .i64 vs, .string vp, .string vb] := ht.dep' 2 59 (by kernel_rfl) rfl
            refine ⟨74, #[.agg #[.int .i64 vs, .string vp, .string vb]], by go_simp, (CTY.out w5).mono ?_⟩
            rintro e w' ⟨rfl, hb⟩
            exact ⟨_, rfl, hb, rfl⟩
          · refine stepOk_value rfl fun a w5 ht => ?_
            have e58 : a.tmps[58]?.getD undef = .string RS := ht.dep' 1 58 (by kernel_rfl) rfl
            exact ⟨.string RS, w5, by go_simp, Below.refl _ _, rfl⟩
          · refine stepOk_value rfl fun a w5 ht => ?_
            have e60 : a.tmps[60]?.getD undef = .string RT := ht.dep' 3 60 (by kernel_rfl) rfl
            exact ⟨.string RT, w5, by go_simp, Below.refl _ _, rfl⟩
          · refine stepOk_value rfl fun a w5 ht => ?_
            exact ⟨.bool true, w5, by go_simp, Below.refl _ _, rfl⟩
        case hd =>
          intro vs w8 hl hb8 hvs
          have hl : vs.length = 7 := hl
          obtain ⟨v0, r0, rfl, l0⟩ := uncons vs hl
          obtain ⟨v1, r1, rfl, l1⟩ := uncons r0 l0
          obtain ⟨v2, r2, rfl, l2⟩ := uncons r1 l1
          obtain ⟨v3, r3, rfl, l3⟩ := uncons r2 l2
          obtain ⟨v4, r4, rfl, l4⟩ := uncons r3 l3
          obtain ⟨v5, r5, rfl, l5⟩ := uncons r4 l4
          obtain ⟨v6, r6, rfl, l6⟩ := uncons r5 l5
          obtain rfl := List.eq_nil_of_length_eq_zero l6
          have h4 : v4 = .string RS := hvs 4 (by decide)
          subst h4
          have h5 : v5 = .string RT := hvs 5 (by decide)
          subst h5
          have h6 : v6 = .bool true := hvs 6 (by decide)
          subst h6
          clear hvs
          simp only [puts, List.map, go_sem, List.setIfInBounds_toArray, List.set_cons_succ, List.set_cons_zero]
          have HW8 : Hid (Below w.heap.size w w8) := HW6.out.trans (hb8.mono HW6.out.size)
          clear hb8 HW6 hz0 hz1 hz2 hu0 hu1 hu2 heq hgd CTX CTY
          go_wp2_with fail
          go_ret3
          exact ⟨rfl, HW8.out⟩
    · have HNN : Hid (RS = ByteArray.empty ∧ RT = ByteArray.empty ∧ RB = false) := HRN.out (HFD.out.trans (firstDiff_out es fs k (by have h := HKN.out; rw [← HEN.out, ← HFM.out]; omega)))
      obtain ⟨rfl, rfl, rfl⟩ := HNN.out
      by_cases hp : p = 0
      · subst hp
        clear hlt
        go_wp2_with fail
        go_ret3
        exact ⟨rfl, HBE.out⟩
      · obtain rfl : q = 0 := by omega
        have hp1 : (0 : Int) < (p : Int) := by omega
        clear hlt hp
        go_wp2_with fail
        go_ret3
        exact ⟨rfl, HBE.out⟩
theorem refClash_any39 {H : ByteArray → ByteArray} (hS : RefLaw H) (a b : List Fd.Ent) (ao bo : Option Addr) (c1 c2 : Nat) (w : World) (hca : EntsAt w ao a) (hcb : EntsAt w bo b) (hoa : ∀ e ∈ a, e.ok) (hob : ∀ e ∈ b, e.ok) (hla : a.length ≤ 100000) (hlb : b.length ≤ 100000) (hc1 : a.length ≤ c1) (hc2 : b.length ≤ c2) :
    Calls Try.prog 50 #[.slice ao a.length c1, .slice bo b.length c2] w (ClashOut (clashR H a b) w) := by
  unfold ClashOut
  by_cases hna : a = []
  · rw [clashR_no (fun h => h.1 hna)]
    subst hna
    exact refClashF_1 ao bo b.length c1 c2 w
  by_cases hnb : b = []
  · rw [clashR_no (fun h => h.2.1 hnb)]
    subst hnb
    have hl : 0 < a.length := List.length_pos_iff.2 hna
    exact refClashF_2 ao bo a.length c1 c2 w (by rw [beq_eq_false_iff_ne]; omega)
  have hl1 : 0 < a.length := List.length_pos_iff.2 hna
  have hl2 : 0 < b.length := List.length_pos_iff.2 hnb
  have n1 : ((a.length : Int) == 0) = false := by rw [beq_eq_false_iff_ne]; omega
  have n2 : ((b.length : Int) == 0) = false := by rw [beq_eq_false_iff_ne]; omega
  have GA : Hid (∀ w', Below w.heap.size w w' → Calls Try.prog 72 #[.int .i64 0, .string ByteArray.empty, .slice ao a.length c1] w' fun e w'' => e = .returned (.bool (goesL H stE a)) ∧ Below w'.heap.size w' w'') := fun w' hb => refGoes_any hS stE a ao c1 w' (hca.kept hb (Nat.le_refl _)) hoa hla (by decide) 0 rfl
  have GB : Hid (∀ w', Below w.heap.size w w' → Calls Try.prog 72 #[.int .i64 0, .string ByteArray.empty, .slice bo b.length c2] w' fun e w'' => e = .returned (.bool (goesL H stE b)) ∧ Below w'.heap.size w' w'') := fun w' hb => refGoes_any hS stE b bo c2 w' (hcb.kept hb (Nat.le_refl _)) hob hlb (by decide) 0 rfl
  have CA : Hid (∀ w', Below w.heap.size w w' → Calls Try.prog 46 #[.slice ao a.length c1] w' fun e w'' => e = .returned (.string (H (lastE a).text)) ∧ Below w'.heap.size w' w'') := fun w' hb => by
    have h := refHead_any hS a ao c1 w' (hca.kept hb (Nat.le_refl _)) hoa (by omega)
    unfold headL at h
    rw [if_neg hna] at h
    exact h
  have CB : Hid (∀ w', Below w.heap.size w w' → Calls Try.prog 46 #[.slice bo b.length c2] w' fun e w'' => e = .returned (.string (H (lastE b).text)) ∧ Below w'.heap.size w' w'') := fun w' hb => by
    have h := refHead_any hS b bo c2 w' (hcb.kept hb (Nat.le_refl _)) hob (by omega)
    unfold headL at h
    rw [if_neg hnb] at h
    exact h
  cases hga : goesL H stE a with
  | false =>
    rw [clashR_no (fun h => by rw [hga] at h; cases h.2.2.1)]
    rw [hga] at GA
    exact refClashF_3 ao bo a.length b.length c1 c2 w n1 n2 GA
  | true =>
    rw [hga] at GA
    cases hgb : goesL H stE b with
    | false =>
      rw [clashR_no (fun h => by rw [hgb] at h; cases h.2.2.2.1)]
      rw [hgb] at GB
      exact refClashF_4 ao bo a.length b.length c1 c2 w n1 n2 GA GB
    | true =>
      rw [hgb] at GB
      by_cases hh : H (lastE a).text = H (lastE b).text
      · have hall : a ≠ [] ∧ b ≠ [] ∧ goesL H stE a = true ∧ goesL H stE b = true ∧ H (lastE a).text = H (lastE b).text := ⟨hna, hnb, hga, hgb, hh⟩
        rw [← hh] at CB
        obtain ⟨b1, o1, rfl, _⟩ := ents_last hca hna
        obtain ⟨b2, o2, rfl, _⟩ := ents_last hcb hnb
        have HRN : Hid (firstDiff a.reverse b.reverse = none → (clashR H a b).1 = ByteArray.empty ∧ (clashR H a b).2.1 = ByteArray.empty ∧ (clashR H a b).2.2 = false) := fun h => by rw [clashR_none h]; exact ⟨rfl, rfl, rfl⟩
        have HRY : Hid (∀ x y, firstDiff a.reverse b.reverse = some (x, y) → (clashR H a b).1 = x.text ∧ (clashR H a b).2.1 = y.text ∧ (clashR H a b).2.2 = true) := fun x y h => by rw [clashR_yes hall h]; exact ⟨rfl, rfl, rfl⟩
        exact refClashF_yes a b a.length b.length c1 c2 b1 o1 b2 o2 (H (lastE a).text) _ _ _ w n1 n2 rfl rfl (by omega) (by omega) GA GB CA CB (by omega) (by omega) hca hcb hoa hob HRN HRY
      · rw [clashR_no (fun h => hh h.2.2.2.2)]
        exact refClashF_5 ao bo a.length b.length c1 c2 (H (lastE a).text) (H (lastE b).text) w n1 n2 GA GB CA CB (by rw [beq_eq_false_iff_ne]; exact toList_ne hh)
end Go.Proofs.Ytbajgpbekanodaa
