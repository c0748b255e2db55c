/- The walk over pandectlaw39's FeedGoes. -/
import Derived.Test.YtbajgpbekanodaaFeedMade
namespace Go.Proofs.Ytbajgpbekanodaa
open Go.RowKit

/-- What Since tells, as a part of the entries. -/
theorem since_part (es : List Fd.Ent) (seq most : Int) (fr tk : Nat) (hfr : min (max seq 0) (es.length : Int) = (fr : Int)) (htk : min (max most 0) ((es.length : Int) - (fr : Int)) = (tk : Int)) : sinceL es seq most = (es.drop fr).take tk ∧ ((es.drop fr).take tk).length = tk := by
  have hl : ((es.drop fr).take tk).length = tk := by rw [List.length_take, List.length_drop]; omega
  refine ⟨?_, hl⟩
  unfold sinceL
  by_cases h : (es.length : Int) ≤ seq ∨ most < 1
  · rw [if_pos h]
    have h0 : tk = 0 := by omega
    exact (List.eq_nil_of_length_eq_zero (by rw [hl, h0])).symm
  · rw [if_neg h]
    have e1 : (max seq 0).toNat = fr := by omega
    rw [e1]
    by_cases h2 : most.toNat ≤ (es.drop fr).length
    · rw [List.length_drop] at h2
      rw [show most.toNat = tk by omega]
    · rw [List.take_of_length_le (by omega), List.take_of_length_le (by rw [List.length_drop] at h2 ⊢; omega)]
theorem ents_form {w : World} {B : Nat} {v : Value} {es : List Fd.Ent} (h : w.ownsRow B 82 3 v es.length (Fd.flat es)) : ∃ ao cap, v = .slice ao es.length cap ∧ EntsAt w ao es ∧ es.length ≤ cap ∧ cap ≤ maxLen ∧ ((ao = none ∧ es.length = 0 ∧ cap = 0) ∨ ∃ g, ao = some ⟨g, 0, none⟩) := by
  obtain ⟨ao, cap, rfl, hat, h1, h2⟩ := entsAt_owns h
  refine ⟨ao, cap, rfl, hat, h1, h2, ?_⟩
  rcases h.2 with ⟨h3, _⟩ | ⟨g, c, cur, h3, _⟩
  · injection h3 with h4 h5 h6
    exact Or.inl ⟨h4, h5, h6⟩
  · injection h3 with h4 h5 h6
    exact Or.inr ⟨g, h4⟩

set_option maxRecDepth 100000 in
set_option maxHeartbeats 4000000 in
theorem goes_no (ao : Option Addr) (n cap : Nat) (seq most : Int) (w : World) (C : Calls Try.prog 32 #[.slice ao n cap] w fun e w' => ∃ x, e = .returned (.tuple #[x, .bool false]) ∧ Below w.heap.size w w') :
    Calls Try.prog 13 #[.slice ao n cap, .int .i64 seq, .int .i64 most] w fun e w' => e = .returned (.bool true) ∧ Below w.heap.size w w' := by
  have HC := Lib.hid C
  clear C
  go_enter Try.func13, Try.ntmps13
  go_wp2_with fail
  refine HC.out.mono ?_
  rintro e w1 ⟨x, rfl, hb1⟩
  have HB1 := Lib.hid hb1
  clear hb1 HC
  go_wp2_with fail
  refine (awake39_any w1).mono ?_
  rintro e w2 ⟨rfl, hb2⟩
  have HB2 : Hid (Below w.heap.size w w2) := HB1.out.trans (hb2.mono HB1.out.size)
  clear hb2 HB1
  go_wp2_with fail
  go_ret
  exact ⟨rfl, HB2.out⟩

set_option maxRecDepth 100000 in
set_option maxHeartbeats 8000000 in
theorem goes_yes {H : ByteArray → ByteArray} (hS : SumLaw H) (l : List ByteArray) (ao : Option Addr) (cap : Nat) (seq most : Int) (w : World) (hf : StrsFit l cap) (hc : StrsAt w ao l) (hm : madeB l = true)
    (C : Calls Try.prog 32 #[.slice ao l.length cap] w fun e w' => ∃ p v, e = .returned (.tuple #[.pointer (some ⟨p, 0, none⟩), .bool true]) ∧ FeedIn (fun k => w.heap.size ≤ k) p 77 (runs H l) v w' ∧ Below w.heap.size w w') :
    Calls Try.prog 13 #[.slice ao l.length cap, .int .i64 seq, .int .i64 most] w fun e w' => e = .returned (.bool true) ∧ Below w.heap.size w w' := by
  obtain ⟨_, hbg, hl150⟩ := madeB_yes hm
  have HC := Lib.hid C
  have HSC := Lib.hid hc
  have HL8 := Lib.hid (not_big hbg)
  obtain ⟨n, hn⟩ : ∃ n, n = l.length := ⟨_, rfl⟩
  have HN := Lib.hid hn
  have hn0 : (0 : Int) ≤ (n : Int) := Int.natCast_nonneg _
  rw [← hn] at hl150 HC ⊢
  have hcap : (n : Int) ≤ (cap : Int) := by have := hf.1; omega
  clear C hc hbg hm hn hf
  go_enter Try.func13, Try.ntmps13
  go_wp2_with fail
  refine HC.out.mono ?_
  rintro e w1 ⟨p, v, rfl, hf1, hb1⟩
  have HF1 := Lib.hid hf1
  have HB1 := Lib.hid hb1
  clear hb1 hf1 HC
  go_wp2_with fail
  refine (all39_any HF1.out (by rw [runs_len]; have := HN.out; omega)).mono ?_
  rintro e w2 ⟨v2, rfl, hown, hb2⟩
  obtain ⟨a1, c1, rfl, hat1, hnc, hcm, hfrm⟩ := ents_form hown
  have HAT1 := Lib.hid hat1
  have HF2 := Lib.hid (HF1.out.turned (Turned.of_below (S := fun _ => False) hb2) (fun _ _ _ h => h))
  have HB2 : Hid (Below w.heap.size w w2) := HB1.out.trans (hb2.mono HB1.out.size)
  have hrl : (runs H l).all.length = n := (runs_len H l).trans HN.out.symm
  have HRL := Lib.hid hrl
  rw [hrl] at hnc hfrm ⊢
  have HFRM := Lib.hid hfrm
  have hnc1 : (n : Int) ≤ (c1 : Int) := by omega
  unfold maxLen at hcm
  clear hown hat1 hb2 hrl hfrm HF1 HB1 hnc
  go_wp2_with fail
  go_loopw [10, 11] (fun h i wr => ∃ k : Nat, (k : Int) ≤ (n : Int) ∧ h = .string (runs H (l.take k)).head ∧ i = .int .i64 (k : Int) ∧ Hid (Below w2.heap.size w2 wr)) (fun _ i _ => n - (intOf i).toNat)
  case atStart => exact ⟨0, by omega, rfl, rfl, Below.refl _ _⟩
  case round =>
    obtain ⟨k, hk, rfl, rfl, HBE⟩ := hrel
    have hk0 : (0 : Int) ≤ (k : Int) := Int.natCast_nonneg _
    by_cases hlt : (k : Int) < (n : Int)
    · have hkl : k < l.length := by have := HN.out; omega
      obtain ⟨b, off, rfl, hb, hcell⟩ := HSC.out k hkl
      have hcell := ((HB2.out.trans (HBE.out.mono HB2.out.size)).cell (World.block_lt_of_cell? _ _ hcell)).trans hcell
      obtain ⟨b2, o2, rfl, hb2, hent⟩ := HAT1.out k (by have := HRL.out; omega)
      have hent := hent.kept HBE.out hb2
      rw [runs_get H l k hkl] at hent
      have HOK := Lib.hid (entOf_size H hS.1 l (fun s hs => by have := HL8.out s hs; omega) k hkl (by have := HN.out; omega))
      have HNX : Hid (H (entOf H l k).text = (runs H (l.take (k + 1))).head) := by
        show _ = _
        rw [runs_succ H l k hkl]
        rfl
      have CH := Lib.hid (fun w => feedHash_any hS (entOf H l k) HOK.out w)
      rw [HNX.out] at CH
      have hE : entOf H l k = ⟨(k : Int) + 1, (runs H (l.take k)).head, l.getD k ByteArray.empty⟩ := by
        have h1 := entOf_seq H l k (by omega)
        have h2 : entOf H l k = ⟨(entOf H l k).seq, (runs H (l.take k)).head, l.getD k ByteArray.empty⟩ := rfl
        rw [h2, h1]
      rw [hE] at CH hent
      have heq := equal_ent (entOf H l k) (entOf H l k)
      rw [hE, decide_eq_true rfl] at heq
      unfold Fd.Ent.val at heq CH
      simp only at heq CH
      obtain ⟨y0, y1, y2⟩ := hent
      simp only at y0 y1 y2
      have hgd := guard_ent
      generalize l.getD k ByteArray.empty = s at *
      generalize (runs H (l.take k)).head = hk1 at *
      generalize hk2e : (runs H (l.take (k + 1))).head = hk2 at *
      have HK2 := Lib.hid hk2e
      clear hkl hE HOK HNX hb hb2 hk2e
      go_wp2_with fail
      go_quiet (fail)
      go_wp2_with fail
      refine (CH.out _).mono ?_
      rintro e w3 ⟨rfl, hb3⟩
      have hbq : Below w2.heap.size w2 (wr.drewN nq) := ⟨HBE.out.os, HBE.out.tape, HBE.out.output, HBE.out.size, HBE.out.block⟩
      have HBE3 : Hid (Below w2.heap.size w2 w3) := hbq.trans (hb3.mono hbq.size)
      clear hb3 hbq CH HBE y0 y1 y2 heq
      go_wp2_with fail
      go_roundw
      case rel => exact ⟨k + 1, by omega, by rw [HK2.out], by go_num, HBE3⟩
      case measure => simp [intOf]; omega
    · obtain rfl : k = n := by omega
      have HHD : Hid ((runs H (l.take k)).head = (runs H l).head) := by show _ = _; rw [HN.out, List.take_length]
      rw [HHD.out]
      obtain ⟨fr, hfr⟩ : ∃ fr : Nat, min (max seq 0) (k : Int) = (fr : Int) := ⟨(min (max seq 0) (k : Int)).toNat, by omega⟩
      obtain ⟨tk, htk⟩ : ∃ tk : Nat, min (max most 0) ((k : Int) - (fr : Int)) = (tk : Int) := ⟨(min (max most 0) ((k : Int) - (fr : Int))).toNat, by omega⟩
      have hft : (fr : Int) + (tk : Int) ≤ (k : Int) := by omega
      obtain ⟨tn, htn⟩ : ∃ tn : Nat, (fr : Int) + (tk : Int) = (tn : Int) := ⟨fr + tk, by omega⟩
      have htn0 : (0 : Int) ≤ (tn : Int) := Int.natCast_nonneg _
      have hftn : (fr : Int) ≤ (tn : Int) := by omega
      have htc : (tn : Int) ≤ (c1 : Int) := by omega
      have hfc : (fr : Int) ≤ (c1 : Int) := by omega
      have hftN : fr ≤ tn := by omega
      have hfr0 : (0 : Int) ≤ (fr : Int) := Int.natCast_nonneg _
      have htk0 : (0 : Int) ≤ (tk : Int) := Int.natCast_nonneg _
      have hfk : (fr : Int) ≤ (k : Int) := by omega
      obtain ⟨hsn, hsl⟩ := since_part (runs H l).all seq most fr tk (by rw [HRL.out]; exact hfr) (by rw [HRL.out]; exact htk)
      generalize hsub : ((runs H l).all.drop fr).take tk = sub at *
      have HSL := Lib.hid hsl
      have HSUB := Lib.hid hsub
      have CS : Hid (∀ w5, Below wr.heap.size wr w5 → Calls Try.prog 47 #[.pointer (some ⟨p, 0, none⟩), .int .i64 seq, .int .i64 most] w5 (EntOut w5 sub)) := fun w5 hb5 => by
        have h := since_any _ p _ _ v seq most w5 ((HF2.out.turned (Turned.of_below (S := fun _ => False) HBE.out) (fun _ _ _ h => h)).turned (Turned.of_below (S := fun _ => False) hb5) (fun _ _ _ h => h)) (by have h1 := HRL.out; omega)
        rw [hsn] at h
        exact h
      have CH : Hid (∀ w5, Below wr.heap.size wr w5 → Calls Try.prog 37 #[.pointer (some ⟨p, 0, none⟩)] w5 fun e w' => e = .returned (.string (runs H l).head) ∧ Below w5.heap.size w5 w') := fun w5 hb5 =>
        (head_feed ((HF2.out.turned (Turned.of_below (S := fun _ => False) HBE.out) (fun _ _ _ h => h)).turned (Turned.of_below (S := fun _ => False) hb5) (fun _ _ _ h => h))).mono fun e w' h => ⟨h.1, by rw [h.2]; exact Below.refl _ _⟩
      have CM : Hid (∀ (a3 : Option Addr) (c3 : Nat) (a4 : Option Addr) (c4 : Nat) (w5 : World), EntsAt w5 a3 sub → EntsAt w5 a4 sub → Calls Try.prog 38 #[.slice a3 sub.length c3, .slice a4 sub.length c4] w5 fun e w' => e = .returned (.bool true) ∧ Below w5.heap.size w5 w') := fun a3 c3 a4 c4 w5 h1 h2 => by
        have h := same39_any sub sub a3 a4 c3 c4 w5 h1 h2 (by have h3 := HSL.out; omega)
        rw [decide_eq_true rfl] at h
        exact h
      generalize (runs H l).head = hd at *
      have hbq : (hd.toList == hd.toList) = true := by simp
      clear hlt hsn hsl hsub hcap
      generalize k = n at *
      go_upto_region 14 with fail
      refine wp_region_puts2 (R := fun qi w' v => if qi = 15 then ∃ a2 c2, v = .slice a2 sub.length c2 ∧ EntsAt w' a2 sub else if qi = 19 then ∃ a2 c2, v = .slice a2 sub.length c2 ∧ EntsAt w' a2 sub else v = [Value.slice a1 n c1, .int .i64 (n : Int), .slice ao n cap, .int .i64 (n : Int), .bool true, .bool true, .pointer (some ⟨p, 0, none⟩), .string hd, .string hd, .bool true, .bool true, .bool true, .pointer (some ⟨p, 0, none⟩), .int .i64 seq, .int .i64 most, undef, .slice a1 n c1, .int .i64 (fr : Int), .int .i64 (tn : Int), undef, .bool true, .bool true, .bool true, .bool true, .bool true, .bool true].getD qi undef)
        (by kernel_rfl) (by kernel_rfl) (by kernel_rfl) ?hRR (by kernel_rfl) (steps_of ?hs) ?hd
      case hRR =>
        intro qi w1 w2 v hb hv
        by_cases h15 : qi = 15
        · rw [if_pos h15] at hv ⊢
          obtain ⟨a2, c2, h1, h2⟩ := hv
          exact ⟨a2, c2, h1, h2.kept hb (Nat.le_refl _)⟩
        rw [if_neg h15] at hv ⊢
        by_cases h19 : qi = 19
        · rw [if_pos h19] at hv ⊢
          obtain ⟨a2, c2, h1, h2⟩ := hv
          exact ⟨a2, c2, h1, h2.kept hb (Nat.le_refl _)⟩
        rw [if_neg h19] at hv ⊢
        exact hv
      case hs =>
        refine ⟨?_, ?_, ?_, ?_, ?_, ?_, ?_, ?_, ?_, ?_, ?_, ?_, ?_, ?_, ?_, ?_, ?_, ?_, ?_, ?_, ?_, ?_, ?_, ?_, ?_, ?_, trivial⟩
        · refine stepOk_value rfl fun a w5 ht => ?_
          have e9 : a.tmps[9]?.getD undef = .slice a1 n c1 := ht.old' 9 (.slice a1 n c1) (by kernel_rfl) rfl
          exact ⟨Value.slice a1 n c1, w5, by go_simp, Below.refl _ _, rfl⟩
        · refine stepOk_value rfl fun a w5 ht => ?_
          have e62 : a.tmps[62]?.getD undef = Value.slice a1 n c1 := ht.dep' 0 62 (by kernel_rfl) rfl
          exact ⟨.int .i64 (n : Int), w5, by go_simp, Below.refl _ _, rfl⟩
        · refine stepOk_value rfl fun a w5 ht => ?_
          have e0 : a.tmps[0]?.getD undef = .slice ao n cap := ht.old' 0 (.slice ao n cap) (by kernel_rfl) rfl
          exact ⟨.slice ao n cap, w5, by go_simp, Below.refl _ _, rfl⟩
        · refine stepOk_value rfl fun a w5 ht => ?_
          have e64 : a.tmps[64]?.getD undef = .slice ao n cap := ht.dep' 2 64 (by kernel_rfl) rfl
          exact ⟨.int .i64 (n : Int), w5, by go_simp, Below.refl _ _, rfl⟩
        · refine stepOk_value rfl fun a w5 ht => ?_
          have e63 : a.tmps[63]?.getD undef = .int .i64 (n : Int) := ht.dep' 1 63 (by kernel_rfl) rfl
          have e65 : a.tmps[65]?.getD undef = .int .i64 (n : Int) := ht.dep' 3 65 (by kernel_rfl) rfl
          exact ⟨.bool true, w5, by go_simp, Below.refl _ _, rfl⟩
        · refine stepOk_value rfl fun a w5 ht => ?_
          have e66 : a.tmps[66]?.getD undef = .bool true := ht.dep' 4 66 (by kernel_rfl) rfl
          exact ⟨.bool true, w5, by go_simp, Below.refl _ _, rfl⟩
        · refine stepOk_value_guarded 5 67 true rfl (by kernel_rfl) rfl (Nat.le_of_ble_eq_true rfl) (fun w v h => h) fun a w5 ht => ?_
          have e7 : a.tmps[7]?.getD undef = .pointer (some ⟨p, 0, none⟩) := ht.old' 7 (.pointer (some ⟨p, 0, none⟩)) (by kernel_rfl) rfl
          exact ⟨.pointer (some ⟨p, 0, none⟩), w5, by go_simp, Below.refl _ _, rfl⟩
        · refine stepOk_call_guarded 5 67 true rfl (by kernel_rfl) rfl (Nat.le_of_ble_eq_true rfl) (fun w v h => h) fun a w5 ht => ?_
          have e68 : a.tmps[68]?.getD undef = .pointer (some ⟨p, 0, none⟩) := ht.dep' 6 68 (by kernel_rfl) rfl
          refine ⟨37, #[.pointer (some ⟨p, 0, none⟩)], by go_simp, (CH.out w5 ht.below).mono ?_⟩
          rintro e w' ⟨rfl, hb⟩
          exact ⟨_, rfl, hb, rfl⟩
        · refine stepOk_value_guarded 5 67 true rfl (by kernel_rfl) rfl (Nat.le_of_ble_eq_true rfl) (fun w v h => h) fun a w5 ht => ?_
          have e10 : a.tmps[10]?.getD undef = .string hd := ht.old' 10 (.string hd) (by kernel_rfl) rfl
          exact ⟨.string hd, w5, by go_simp, Below.refl _ _, rfl⟩
        · refine stepOk_value_guarded 5 67 true rfl (by kernel_rfl) rfl (Nat.le_of_ble_eq_true rfl) (fun w v h => h) fun a w5 ht => ?_
          have e69 : a.tmps[69]?.getD undef = .string hd := ht.dep' 7 69 (by kernel_rfl) rfl
          have e70 : a.tmps[70]?.getD undef = .string hd := ht.dep' 8 70 (by kernel_rfl) rfl
          exact ⟨.bool true, w5, by go_simp, Below.refl _ _, rfl⟩
        · refine stepOk_value rfl fun a w5 ht => ?_
          have e67 : a.tmps[67]?.getD undef = .bool true := ht.dep' 5 67 (by kernel_rfl) rfl
          have e71 : a.tmps[71]?.getD undef = .bool true := ht.dep' 9 71 (by kernel_rfl) rfl
          exact ⟨.bool true, w5, by go_simp, Below.refl _ _, rfl⟩
        · refine stepOk_value rfl fun a w5 ht => ?_
          have e72 : a.tmps[72]?.getD undef = .bool true := ht.dep' 10 72 (by kernel_rfl) rfl
          exact ⟨.bool true, w5, by go_simp, Below.refl _ _, rfl⟩
        · refine stepOk_value_guarded 11 73 true rfl (by kernel_rfl) rfl (Nat.le_of_ble_eq_true rfl) (fun w v h => h) fun a w5 ht => ?_
          have e7 : a.tmps[7]?.getD undef = .pointer (some ⟨p, 0, none⟩) := ht.old' 7 (.pointer (some ⟨p, 0, none⟩)) (by kernel_rfl) rfl
          exact ⟨.pointer (some ⟨p, 0, none⟩), w5, by go_simp, Below.refl _ _, rfl⟩
        · refine stepOk_value_guarded 11 73 true rfl (by kernel_rfl) rfl (Nat.le_of_ble_eq_true rfl) (fun w v h => h) fun a w5 ht => ?_
          have e1 : a.tmps[1]?.getD undef = .int .i64 seq := ht.old' 1 (.int .i64 seq) (by kernel_rfl) rfl
          exact ⟨.int .i64 seq, w5, by go_simp, Below.refl _ _, rfl⟩
        · refine stepOk_value_guarded 11 73 true rfl (by kernel_rfl) rfl (Nat.le_of_ble_eq_true rfl) (fun w v h => h) fun a w5 ht => ?_
          have e2 : a.tmps[2]?.getD undef = .int .i64 most := ht.old' 2 (.int .i64 most) (by kernel_rfl) rfl
          exact ⟨.int .i64 most, w5, by go_simp, Below.refl _ _, rfl⟩
        · refine stepOk_call_guarded 11 73 true rfl (by kernel_rfl) rfl (Nat.le_of_ble_eq_true rfl) (fun w v h => h) fun a w5 ht => ?_
          have e74 : a.tmps[74]?.getD undef = .pointer (some ⟨p, 0, none⟩) := ht.dep' 12 74 (by kernel_rfl) rfl
          have e75 : a.tmps[75]?.getD undef = .int .i64 seq := ht.dep' 13 75 (by kernel_rfl) rfl
          have e76 : a.tmps[76]?.getD undef = .int .i64 most := ht.dep' 14 76 (by kernel_rfl) rfl
          refine ⟨47, #[.pointer (some ⟨p, 0, none⟩), .int .i64 seq, .int .i64 most], by go_simp, (CS.out w5 ht.below).mono ?_⟩
          rintro e w' ⟨v, rfl, h1, h2⟩
          obtain ⟨a2, c2, rfl, h3, _⟩ := entsAt_owns h1
          exact ⟨_, rfl, h2, a2, c2, rfl, h3⟩
        · refine stepOk_value_guarded 11 73 true rfl (by kernel_rfl) rfl (Nat.le_of_ble_eq_true rfl) (fun w v h => h) fun a w5 ht => ?_
          have e9 : a.tmps[9]?.getD undef = .slice a1 n c1 := ht.old' 9 (.slice a1 n c1) (by kernel_rfl) rfl
          exact ⟨.slice a1 n c1, w5, by go_simp, Below.refl _ _, rfl⟩
        · refine stepOk_value_guarded 11 73 true rfl (by kernel_rfl) rfl (Nat.le_of_ble_eq_true rfl) (fun w v h => h) fun a w5 ht => ?_
          have e12 : a.tmps[12]?.getD undef = .int .i64 (fr : Int) := ht.old' 12 (.int .i64 (fr : Int)) (by kernel_rfl) rfl
          exact ⟨.int .i64 (fr : Int), w5, by go_simp, Below.refl _ _, rfl⟩
        · refine stepOk_value_guarded 11 73 true rfl (by kernel_rfl) rfl (Nat.le_of_ble_eq_true rfl) (fun w v h => h) fun a w5 ht => ?_
          have e13 : a.tmps[13]?.getD undef = .int .i64 (tn : Int) := ht.old' 13 (.int .i64 (tn : Int)) (by kernel_rfl) rfl
          exact ⟨.int .i64 (tn : Int), w5, by go_simp, Below.refl _ _, rfl⟩
        · refine stepOk_value_guarded 11 73 true rfl (by kernel_rfl) rfl (Nat.le_of_ble_eq_true rfl) (fun w v h => h) fun a w5 ht => ?_
          have e78 : a.tmps[78]?.getD undef = .slice a1 n c1 := ht.dep' 16 78 (by kernel_rfl) rfl
          have e79 : a.tmps[79]?.getD undef = .int .i64 (fr : Int) := ht.dep' 17 79 (by kernel_rfl) rfl
          have e80 : a.tmps[80]?.getD undef = .int .i64 (tn : Int) := ht.dep' 18 80 (by kernel_rfl) rfl
          have hat := (HAT1.out.kept HBE.out (Nat.le_refl _)).kept ht.below (Nat.le_refl _)
          rcases HFRM.out with ⟨rfl, hn0, hc0⟩ | ⟨g, rfl⟩
          · obtain rfl : fr = 0 := by omega
            obtain rfl : tk = 0 := by omega
            obtain rfl : tn = 0 := by omega
            subst hn0
            subst hc0
            refine ⟨.slice none 0 0, w5, by go_simp, Below.refl _ _, none, 0, by rw [HSL.out], fun i hi => by rw [HSL.out] at hi; omega⟩
          · by_cases hcf : c1 = fr
            · obtain rfl : tk = 0 := by omega
              obtain rfl : tn = fr := by omega
              subst hcf
              refine ⟨.slice (some ⟨g, 0, none⟩) 0 0, w5, by go_simp, Below.refl _ _, _, _, by rw [HSL.out], fun i hi => by rw [HSL.out] at hi; omega⟩
            · have hsub := HSUB.out ▸ entsAt_take (entsAt_drop hat fr) tk
              refine ⟨.slice (some ⟨g, fr * 3, none⟩) (tn - fr) (c1 - fr), w5, by go_simp, Below.refl _ _, _, _, by rw [HSL.out, show tn - fr = tk by omega], by simpa using hsub⟩
        · refine stepOk_call_guarded 11 73 true rfl (by kernel_rfl) rfl (Nat.le_of_ble_eq_true rfl) (fun w v h => h) fun a w5 ht => ?_
          have e77 : ∃ a2 c2, a.tmps[77]?.getD undef = .slice a2 sub.length c2 ∧ EntsAt w5 a2 sub := ht.dep' 15 77 (by kernel_rfl) rfl
          have e81 : ∃ a2 c2, a.tmps[81]?.getD undef = .slice a2 sub.length c2 ∧ EntsAt w5 a2 sub := ht.dep' 19 81 (by kernel_rfl) rfl
          obtain ⟨a3, c3, e77, h77⟩ := e77
          obtain ⟨a4, c4, e81, h81⟩ := e81
          refine ⟨38, #[.slice a3 sub.length c3, .slice a4 sub.length c4], by go_simp, (CM.out a3 c3 a4 c4 w5 h77 h81).mono ?_⟩
          rintro e w' ⟨rfl, hb⟩
          exact ⟨_, rfl, hb, rfl⟩
        · refine stepOk_value rfl fun a w5 ht => ?_
          have e73 : a.tmps[73]?.getD undef = .bool true := ht.dep' 11 73 (by kernel_rfl) rfl
          have e82 : a.tmps[82]?.getD undef = .bool true := ht.dep' 20 82 (by kernel_rfl) rfl
          exact ⟨.bool true, w5, by go_simp, Below.refl _ _, rfl⟩
        · refine stepOk_value rfl fun a w5 ht => ?_
          have e83 : a.tmps[83]?.getD undef = .bool true := ht.dep' 21 83 (by kernel_rfl) rfl
          exact ⟨.bool true, w5, by go_simp, Below.refl _ _, rfl⟩
        · refine stepOk_call_guarded 22 84 true rfl (by kernel_rfl) rfl (Nat.le_of_ble_eq_true rfl) (fun w v h => h) fun a w5 ht => ?_
          refine ⟨34, #[], by go_simp, (awake39_any w5).mono ?_⟩
          rintro e w' ⟨rfl, hb⟩
          exact ⟨_, rfl, hb, rfl⟩
        · refine stepOk_value rfl fun a w5 ht => ?_
          have e84 : a.tmps[84]?.getD undef = .bool true := ht.dep' 22 84 (by kernel_rfl) rfl
          have e85 : a.tmps[85]?.getD undef = .bool true := ht.dep' 23 85 (by kernel_rfl) rfl
          exact ⟨.bool true, w5, by go_simp, Below.refl _ _, rfl⟩
        · refine stepOk_value rfl fun a w5 ht => ?_
          have e86 : a.tmps[86]?.getD undef = .bool true := ht.dep' 24 86 (by kernel_rfl) rfl
          exact ⟨.bool true, w5, by go_simp, Below.refl _ _, rfl⟩
      case hd =>
        intro vs w8 hl hb8 hvs
        have hl : vs.length = 26 := hl
        obtain ⟨v0, r0, rfl, l0⟩ := uncons vs hl
        obtain ⟨v1, r1, rfl, l1⟩ := uncons r0 l0
        obtain ⟨v2, r2, rfl, l2⟩ := uncons r1 l1
        obtain ⟨v3, r3, rfl, l3⟩ := uncons r2 l2
        obtain ⟨v4, r4, rfl, l4⟩ := uncons r3 l3
        obtain ⟨v5, r5, rfl, l5⟩ := uncons r4 l4
        obtain ⟨v6, r6, rfl, l6⟩ := uncons r5 l5
        obtain ⟨v7, r7, rfl, l7⟩ := uncons r6 l6
        obtain ⟨v8, r8, rfl, l8⟩ := uncons r7 l7
        obtain ⟨v9, r9, rfl, l9⟩ := uncons r8 l8
        obtain ⟨v10, r10, rfl, l10⟩ := uncons r9 l9
        obtain ⟨v11, r11, rfl, l11⟩ := uncons r10 l10
        obtain ⟨v12, r12, rfl, l12⟩ := uncons r11 l11
        obtain ⟨v13, r13, rfl, l13⟩ := uncons r12 l12
        obtain ⟨v14, r14, rfl, l14⟩ := uncons r13 l13
        obtain ⟨v15, r15, rfl, l15⟩ := uncons r14 l14
        obtain ⟨v16, r16, rfl, l16⟩ := uncons r15 l15
        obtain ⟨v17, r17, rfl, l17⟩ := uncons r16 l16
        obtain ⟨v18, r18, rfl, l18⟩ := uncons r17 l17
        obtain ⟨v19, r19, rfl, l19⟩ := uncons r18 l18
        obtain ⟨v20, r20, rfl, l20⟩ := uncons r19 l19
        obtain ⟨v21, r21, rfl, l21⟩ := uncons r20 l20
        obtain ⟨v22, r22, rfl, l22⟩ := uncons r21 l21
        obtain ⟨v23, r23, rfl, l23⟩ := uncons r22 l22
        obtain ⟨v24, r24, rfl, l24⟩ := uncons r23 l23
        obtain ⟨v25, r25, rfl, l25⟩ := uncons r24 l24
        obtain rfl := List.eq_nil_of_length_eq_zero l25
        have h25 : v25 = .bool true := hvs 25 (by decide)
        subst h25
        clear hvs
        simp only [puts, List.map, go_sem, List.setIfInBounds_toArray, List.set_cons_succ, List.set_cons_zero]
        have HB8 : Hid (Below w.heap.size w w8) := HB2.out.trans ((HBE.out.trans (hb8.mono HBE.out.size)).mono HB2.out.size)
        clear hb8
        go_wp2_with fail
        go_ret
        exact ⟨rfl, HB8.out⟩
theorem feedGoes_walk (ao : Option Addr) (cap : Nat) (l : List ByteArray) (seq most : Int) (w : World) (hf : StrsFit l cap) (hc : StrsAt w ao l) (_ : cap * 16 ≤ 140737488351232) (_ : -9223372036854775808 ≤ seq ∧ seq ≤ 9223372036854775807) (_ : -9223372036854775808 ≤ most ∧ most ≤ 9223372036854775807) :
    Calls Try.prog 13 #[.slice ao l.length cap, .int .i64 seq, .int .i64 most] w fun e w' => e = .returned (.bool true) ∧ Below w.heap.size w w' := by
  have C := made_any sum_law l ao cap w hf hc
  unfold MadeOut at C
  cases hm : madeB l with
  | false =>
    simp only [hm, Bool.false_eq_true, if_false] at C
    exact goes_no ao l.length cap seq most w C
  | true =>
    simp only [hm, if_true] at C
    exact goes_yes sum_law l ao cap seq most w hf hc hm C
end Go.Proofs.Ytbajgpbekanodaa
