/- The walk over the document's Unhex. -/
import Derived.Test.YtbajgpbekanodaaDigRefHex
import Derived.Test.YtbajgpbekanodaaRegionE
namespace Go.Proofs.Ytbajgpbekanodaa
open Go.RowKit

theorem drop_one (s : ByteArray) (k : Nat) (h : k + 1 = s.size) : unhexL (s.data.toList.drop k) = none := by
  have hl : k + 1 = s.data.toList.length := by simpa using h
  exact unhex_odd _ (by rw [List.length_drop]; omega)

set_option maxRecDepth 100000 in
set_option maxHeartbeats 4000000 in
theorem refUnhex_any (s : ByteArray) (hs : s.size ≤ 1099511627776) (w : World) :
    Calls Try.prog 24 #[.string s] w fun e w' => e = .returned (.tuple #[.string (unhexB s).1, .int .i64 (unhexB s).2]) ∧ Below w.heap.size w w' := by
  obtain ⟨i0, hi, hz0, hz1, hz2⟩ := info_parts infoByte
  obtain ⟨u, hu⟩ : ∃ u, u = unhexB s := ⟨_, rfl⟩
  have HU := Lib.hid hu
  rw [← hu]
  have hn40 : (s.size : Int) ≤ 1099511627776 := by omega
  have H0 : Hid (unhexL s.data.toList = (unhexL (s.data.toList.drop (2 * 0))).map ([] ++ ·)) := by show _ = _; cases h : unhexL s.data.toList <;> simp [h]
  clear hu hs
  go_enter Try.func24, Try.ntmps24
  go_wp2_with fail
  go_loopw [4, 5] (fun o i wr => ∃ (k c : Nat) (ao : Option Addr) (r : List UInt8), 2 * (k : Int) ≤ (s.size : Int) ∧ i = .int .i64 (2 * (k : Int)) ∧ o = .slice ao k c ∧
      Hid (wr.ownsRow w.heap.size 5 1 (.slice ao k c) k (r.map byteV)) ∧ Hid (r.length = k) ∧ Hid (unhexL s.data.toList = (unhexL (s.data.toList.drop (2 * k))).map (r ++ ·)) ∧ Hid (Below w.heap.size w wr)) (fun _ i _ => s.size - (intOf i).toNat)
  case atStart => exact ⟨0, 0, none, [], by omega, rfl, rfl, World.ownsRow_nil _ _ _ _, rfl, H0, Below.refl _ _⟩
  case round =>
    clear H0
    obtain ⟨k, c, ao, r, hk, rfl, rfl, HOWN, HL, HR, HBE⟩ := hrel
    have hk0 : (0 : Int) ≤ 2 * (k : Int) := by omega
    by_cases hlt : 2 * (k : Int) < (s.size : Int)
    · have q1 : IntKind.i64.wrap (2 * (k : Int) + 1) = 2 * (k : Int) + 1 := IntWalk.i64_in _ ⟨by omega, by omega⟩
      by_cases hodd : 2 * (k : Int) + 1 = (s.size : Int)
      · have ho : ((2 * (k : Int) + 1) == (s.size : Int)) = true := by rw [hodd]; exact beq_self_eq_true _
        have HE : Hid (u = (ByteArray.empty, 2)) := by
          show _ = _
          rw [HU.out]
          unfold unhexB
          rw [HR.out, drop_one s (2 * k) (by omega)]
          rfl
        clear hodd HOWN HR HL
        go_wp2_with fail
        go_ret2
        rw [HE.out]
        exact ⟨rfl, HBE.out⟩
      · have ho : ((2 * (k : Int) + 1) == (s.size : Int)) = false := by rw [beq_eq_false_iff_ne]; exact hodd
        have hks1 : 2 * (k : Int) + 1 < (s.size : Int) := by omega
        have hk1 : (0 : Int) ≤ 2 * (k : Int) + 1 := by omega
        have ht0 : (2 * (k : Int)).toNat = 2 * k := by omega
        have ht1 : (2 * (k : Int) + 1).toNat = 2 * k + 1 := by omega
        have HD := Lib.hid (drop_two s (2 * k) (by omega))
        have C1 := Lib.hid (fun w => digit_any s[2 * k].toNat s[2 * k].toNat_lt w)
        have C2 := Lib.hid (fun w => digit_any s[2 * k + 1].toNat s[2 * k + 1].toNat_lt w)
        have HG1 := Lib.hid (digN_some s[2 * k])
        have HG2 := Lib.hid (digN_some s[2 * k + 1])
        have HN1 := Lib.hid (digN_none s[2 * k])
        have HN2 := Lib.hid (digN_none s[2 * k + 1])
        clear hodd
        cases h1 : undig s[2 * k] with
        | none =>
          have HE : Hid (u = (ByteArray.empty, 2)) := by
            show _ = _
            rw [HU.out]
            unfold unhexB
            rw [HR.out, HD.out, unhex_bad _ _ _ (Or.inl h1)]
            rfl
          have C1' := Lib.hid (fun w => by have := C1.out w; rw [HN1.out h1] at this; exact this)
          clear h1 C1 C2 HG1 HG2 HN1 HN2 HD HR HOWN
          go_wp2_with fail
          refine (C1'.out _).mono ?_
          rintro e w1 ⟨rfl, rfl⟩
          go_wp2_with fail
          go_ret2
          rw [HE.out]
          exact ⟨rfl, HBE.out⟩
        | some x =>
          obtain ⟨hx, _⟩ := digB_undig _ x h1
          have hx16 : ((x : Int) == 16) = false := by rw [beq_eq_false_iff_ne]; omega
          have C1' := Lib.hid (fun w => by have := C1.out w; rw [HG1.out x h1] at this; exact this)
          cases h2 : undig s[2 * k + 1] with
          | none =>
            have HE : Hid (u = (ByteArray.empty, 2)) := by
              show _ = _
              rw [HU.out]
              unfold unhexB
              rw [HR.out, HD.out, unhex_bad _ _ _ (Or.inr h2)]
              rfl
            have C2' := Lib.hid (fun w => by have := C2.out w; rw [HN2.out h2] at this; exact this)
            clear h1 h2 C1 C2 HG1 HG2 HN1 HN2 HD HR HOWN
            go_wp2_with fail
            refine (C1'.out _).mono ?_
            rintro e w1 ⟨rfl, rfl⟩
            go_wp2_with fail
            refine (C2'.out _).mono ?_
            rintro e w1 ⟨rfl, rfl⟩
            go_wp2_with fail
            go_ret2
            rw [HE.out]
            exact ⟨rfl, HBE.out⟩
          | some y =>
            obtain ⟨hy, _⟩ := digB_undig _ y h2
            have hy16 : ((y : Int) == 16) = false := by rw [beq_eq_false_iff_ne]; omega
            have C2' := Lib.hid (fun w => by have := C2.out w; rw [HG2.out y h2] at this; exact this)
            have HSTEP := Lib.hid (unhex_step _ _ (s.data.toList.drop (2 * k + 2)) x y h1 h2)
            obtain ⟨z, hz⟩ : ∃ z, z = UInt8.ofNat (16 * x + y) := ⟨_, rfl⟩
            rw [← hz] at HSTEP
            have hzv : z.toNat = 16 * x + y := by rw [hz]; simp [UInt8.toNat_ofNat']; omega
            have HZ := Lib.hid hzv
            have p1 : IntKind.i64.wrap (16 * (x : Int)) = 16 * (x : Int) := IntWalk.i64_in _ ⟨by omega, by omega⟩
            have p2 : IntKind.i64.wrap (16 * (x : Int) + (y : Int)) = 16 * (x : Int) + (y : Int) := IntWalk.i64_in _ ⟨by omega, by omega⟩
            have p3 : IntKind.u8.wrap (16 * (x : Int) + (y : Int)) = 16 * (x : Int) + (y : Int) := IntWalk.u8_in _ ⟨by omega, by omega⟩
            clear hz hzv
            clear h1 h2 C1 C2 HG1 HG2 HN1 HN2 hx hy
            obtain ⟨b1, hb1⟩ : ∃ b, s[2 * k].toNat = b := ⟨_, rfl⟩
            obtain ⟨b2, hb2⟩ : ∃ b, s[2 * k + 1].toNat = b := ⟨_, rfl⟩
            rw [hb1] at C1'
            rw [hb2] at C2'
            go_wp2_with fail
            refine (C1'.out _).mono ?_
            rintro e w1 ⟨rfl, rfl⟩
            go_wp2_with fail
            refine (C2'.out _).mono ?_
            rintro e w1 ⟨rfl, rfl⟩
            go_wp2_with fail
            have C1B := Lib.hid (fun w => (C1'.out w).mono (R' := fun e w' => e = .returned (.int .i64 (x : Int)) ∧ Below w.heap.size w w') fun e w' h => ⟨h.1, by rw [h.2]; exact Below.refl _ _⟩)
            have C2B := Lib.hid (fun w => (C2'.out w).mono (R' := fun e w' => e = .returned (.int .i64 (y : Int)) ∧ Below w.heap.size w w') fun e w' h => ⟨h.1, by rw [h.2]; exact Below.refl _ _⟩)
            refine wp_region_tail 14 (R := fun i w' v => if i = 13 then ∃ g, v = .slice (some ⟨g, 0, none⟩) 1 1 ∧ w'.cell? ⟨g, 0, none⟩ = some (.int .u8 (16 * (x : Int) + (y : Int))) else v = [Value.slice ao k c, .string s, .int .i64 (2 * (k : Int)), .int .u8 (b1 : Int), .int .i64 (x : Int), .int .i64 (16 * (x : Int)), .string s, .int .i64 (2 * (k : Int)), .int .i64 (2 * (k : Int) + 1), .int .u8 (b2 : Int), .int .i64 (y : Int), .int .i64 (16 * (x : Int) + (y : Int)), .int .u8 (16 * (x : Int) + (y : Int)), undef].getD i undef)
              (by kernel_rfl) (by kernel_rfl) (by kernel_rfl) (of_decide_eq_true (by kernel_rfl)) (by kernel_rfl) (by kernel_rfl) (by kernel_rfl) (by kernel_rfl) ?hRR (by kernel_rfl) (steps_of ?hs) ?hd
            case hRR =>
              intro i w1 w2 v hb hv
              by_cases h13 : i = 13
              · rw [if_pos h13] at hv ⊢
                obtain ⟨g, h1, h2⟩ := hv
                exact ⟨g, h1, (hb.cell (p := ⟨g, 0, none⟩) (World.block_lt_of_cell? _ _ h2)).trans h2⟩
              rw [if_neg h13] at hv ⊢
              exact hv
            case hs =>
              refine ⟨?_, ?_, ?_, ?_, ?_, ?_, ?_, ?_, ?_, ?_, ?_, ?_, ?_, ?_, trivial⟩
              · refine stepOk_value rfl fun a w5 ht => ?_
                have e4 : a.tmps[4]?.getD undef = .slice ao k c := ht.old' 4 (.slice ao k c) (by kernel_rfl) rfl
                exact ⟨Value.slice ao k c, w5, by go_simp, Below.refl _ _, rfl⟩
              · refine stepOk_value rfl fun a w5 ht => ?_
                have e0 : a.tmps[0]?.getD undef = .string s := ht.old' 0 (.string s) (by kernel_rfl) rfl
                exact ⟨.string s, w5, by go_simp, Below.refl _ _, rfl⟩
              · refine stepOk_value rfl fun a w5 ht => ?_
                have e5 : a.tmps[5]?.getD undef = .int .i64 (2 * (k : Int)) := ht.old' 5 (.int .i64 (2 * (k : Int))) (by kernel_rfl) rfl
                exact ⟨.int .i64 (2 * (k : Int)), w5, by go_simp, Below.refl _ _, rfl⟩
              · refine stepOk_value rfl fun a w5 ht => ?_
                have e33 : a.tmps[33]?.getD undef = .string s := ht.dep' 1 33 (by kernel_rfl) rfl
                have e34 : a.tmps[34]?.getD undef = .int .i64 (2 * (k : Int)) := ht.dep' 2 34 (by kernel_rfl) rfl
                exact ⟨.int .u8 (b1 : Int), w5, by go_simp, Below.refl _ _, rfl⟩
              · refine stepOk_call rfl fun a w5 ht => ?_
                have e35 : a.tmps[35]?.getD undef = .int .u8 (b1 : Int) := ht.dep' 3 35 (by kernel_rfl) rfl
                refine ⟨61, #[.int .u8 (b1 : Int)], by go_simp, (C1B.out w5).mono ?_⟩
                rintro e w' ⟨rfl, hb⟩
                exact ⟨_, rfl, hb, rfl⟩
              · refine stepOk_value rfl fun a w5 ht => ?_
                have e36 : a.tmps[36]?.getD undef = .int .i64 (x : Int) := ht.dep' 4 36 (by kernel_rfl) rfl
                exact ⟨.int .i64 (16 * (x : Int)), w5, by go_simp, Below.refl _ _, rfl⟩
              · refine stepOk_value rfl fun a w5 ht => ?_
                have e0 : a.tmps[0]?.getD undef = .string s := ht.old' 0 (.string s) (by kernel_rfl) rfl
                exact ⟨.string s, w5, by go_simp, Below.refl _ _, rfl⟩
              · refine stepOk_value rfl fun a w5 ht => ?_
                have e5 : a.tmps[5]?.getD undef = .int .i64 (2 * (k : Int)) := ht.old' 5 (.int .i64 (2 * (k : Int))) (by kernel_rfl) rfl
                exact ⟨.int .i64 (2 * (k : Int)), w5, by go_simp, Below.refl _ _, rfl⟩
              · refine stepOk_value rfl fun a w5 ht => ?_
                have e39 : a.tmps[39]?.getD undef = .int .i64 (2 * (k : Int)) := ht.dep' 7 39 (by kernel_rfl) rfl
                exact ⟨.int .i64 (2 * (k : Int) + 1), w5, by go_simp, Below.refl _ _, rfl⟩
              · refine stepOk_value rfl fun a w5 ht => ?_
                have e38 : a.tmps[38]?.getD undef = .string s := ht.dep' 6 38 (by kernel_rfl) rfl
                have e40 : a.tmps[40]?.getD undef = .int .i64 (2 * (k : Int) + 1) := ht.dep' 8 40 (by kernel_rfl) rfl
                exact ⟨.int .u8 (b2 : Int), w5, by go_simp, Below.refl _ _, rfl⟩
              · refine stepOk_call rfl fun a w5 ht => ?_
                have e41 : a.tmps[41]?.getD undef = .int .u8 (b2 : Int) := ht.dep' 9 41 (by kernel_rfl) rfl
                refine ⟨61, #[.int .u8 (b2 : Int)], by go_simp, (C2B.out w5).mono ?_⟩
                rintro e w' ⟨rfl, hb⟩
                exact ⟨_, rfl, hb, rfl⟩
              · refine stepOk_value rfl fun a w5 ht => ?_
                have e37 : a.tmps[37]?.getD undef = .int .i64 (16 * (x : Int)) := ht.dep' 5 37 (by kernel_rfl) rfl
                have e42 : a.tmps[42]?.getD undef = .int .i64 (y : Int) := ht.dep' 10 42 (by kernel_rfl) rfl
                exact ⟨.int .i64 (16 * (x : Int) + (y : Int)), w5, by go_simp, Below.refl _ _, rfl⟩
              · refine stepOk_value rfl fun a w5 ht => ?_
                have e43 : a.tmps[43]?.getD undef = .int .i64 (16 * (x : Int) + (y : Int)) := ht.dep' 11 43 (by kernel_rfl) rfl
                exact ⟨.int .u8 (16 * (x : Int) + (y : Int)), w5, by go_simp, Below.refl _ _, rfl⟩
              · refine stepOk_value rfl fun a w5 ht => ?_
                have e44 : a.tmps[44]?.getD undef = .int .u8 (16 * (x : Int) + (y : Int)) := ht.dep' 12 44 (by kernel_rfl) rfl
                refine ⟨.slice (some ⟨w5.heap.size, 0, none⟩) 1 1, w5.alloc (.cells #[.int .u8 (16 * (x : Int) + (y : Int))] 5), ?_, (Below.refl _ _).alloc (Nat.le_refl _) _, ⟨_, rfl, cells_new w5 [.int .u8 (16 * (x : Int) + (y : Int))] _ 0 _ rfl⟩⟩
                go_simp
            case hd =>
              intro vs w8 hl hb8 hvs
              have hl : vs.length = 14 := hl
              obtain ⟨v0, r0, rfl, l0⟩ := uncons vs hl
              obtain ⟨v1, r1, rfl, l1⟩ := uncons r0 l0
              obtain ⟨v2, r2, rfl, l2⟩ := uncons r1 l1
              obtain ⟨v3, r3, rfl, l3⟩ := uncons r2 l2
              obtain ⟨v4, r4, rfl, l4⟩ := uncons r3 l3
              obtain ⟨v5, r5, rfl, l5⟩ := uncons r4 l4
              obtain ⟨v6, r6, rfl, l6⟩ := uncons r5 l5
              obtain ⟨v7, r7, rfl, l7⟩ := uncons r6 l6
              obtain ⟨v8, r8, rfl, l8⟩ := uncons r7 l7
              obtain ⟨v9, r9, rfl, l9⟩ := uncons r8 l8
              obtain ⟨v10, r10, rfl, l10⟩ := uncons r9 l9
              obtain ⟨v11, r11, rfl, l11⟩ := uncons r10 l10
              obtain ⟨v12, r12, rfl, l12⟩ := uncons r11 l11
              obtain ⟨v13, r13, rfl, l13⟩ := uncons r12 l12
              obtain rfl := List.eq_nil_of_length_eq_zero l13
              have h0 : v0 = Value.slice ao k c := hvs 0 (by decide)
              subst h0
              have h13 : ∃ g, v13 = .slice (some ⟨g, 0, none⟩) 1 1 ∧ w8.cell? ⟨g, 0, none⟩ = some (.int .u8 (16 * (x : Int) + (y : Int))) := hvs 13 (by decide)
              obtain ⟨g13, rfl, hc13⟩ := h13
              clear hvs
              simp only [puts, List.map, List.take_succ_cons, List.take_zero, List.drop_succ_cons, List.drop_zero, go_sem, List.setIfInBounds_toArray, List.set_cons_succ, List.set_cons_zero]
              have hown8 := owns_kept HOWN.out hb8 (Nat.le_refl _)
              have HBE8 : Hid (Below w.heap.size w w8) := HBE.out.trans (hb8.mono HBE.out.size)
              have hbv : byteV z = .int .u8 (16 * (x : Int) + (y : Int)) := by
                show Value.int .u8 (z.toNat : Int) = _
                rw [HZ.out]; push_cast; rfl
              have hnews : ∀ j u, [byteV z][j]? = some u → w8.cell? ((⟨g13, 0, none⟩ : Addr).add j) = some u := by
                intro j u hj
                cases j with
                | zero => simp at hj; subst hj; rw [hbv]; exact hc13
                | succ j => simp at hj
              clear HOWN HBE C1' C2' C1B C2B
              go_wp2_with (at_builtin; refine wpList_append_own _ rfl _ _ 95 rfl w.heap.size 5 i0 (.int .u8 0) 1 1 Try.underlying95 hi hz0 hz1 hz2 rfl (by decide) _ k _ rfl hown8 ⟨g13, 0, none⟩ 1 1 [byteV z] rfl rfl hnews (by intro u hu; simp at hu; subst hu; rfl) (by unfold maxLen; omega) (by omega) HBE8.out.size ?_)
              intro v' w3 hown3 hgrow _
              obtain ⟨g', c', rfl⟩ := own_form hown3
              have HBE3 : Hid (Below w.heap.size w w3) := HBE8.out.grown hgrow HBE8.out.size (fun g hg => (hown8.lt g hg).1)
              have HOWN3 : Hid (w3.ownsRow w.heap.size 5 1 (.slice (some ⟨g', 0, none⟩) (k + 1) c') (k + 1) ((r ++ [z]).map byteV)) := by
                rw [List.map_append]; show World.ownsRow _ _ _ _ _ _ _
                simp only [List.map_cons, List.map_nil, hbv]
                exact hown3
              have HR3 : Hid (unhexL s.data.toList = (unhexL (s.data.toList.drop (2 * (k + 1)))).map ((r ++ [z]) ++ ·)) := by
                show _ = _
                rw [HR.out, HD.out, HSTEP.out, show 2 * (k + 1) = 2 * k + 2 by omega]
                cases unhexL (s.data.toList.drop (2 * k + 2)) <;> simp
              have HL3 : Hid ((r ++ [z]).length = k + 1) := by show _ = _; rw [List.length_append, HL.out]; rfl
              clear hown3 hown8 hgrow HBE8 HR HD HSTEP hc13
              go_wp2_with fail
              go_roundw
              case rel => exact ⟨k + 1, c', _, _, by omega, by go_num, rfl, HOWN3, HL3, HR3, HBE3⟩
              case measure => simp [intOf]; omega
    · have hdr : s.data.toList.drop (2 * k) = [] := List.drop_of_length_le (by simp; omega)
      have HE : Hid (u = (bytesB r, 0)) := by
        show _ = _
        rw [HU.out]
        unfold unhexB
        rw [HR.out, hdr]
        simp [unhexL]
      clear hdr HR
      rcases HOWN.out.2 with ⟨hv, hz⟩ | ⟨g, cap, cur, hv, _⟩
      · injection hv with a1 a2 a3
        subst a1 a3 hz
        obtain rfl : r = [] := List.eq_nil_of_length_eq_zero HL.out
        have hs0 : ¬ (0 : Int) < (s.size : Int) := by simpa using hlt
        have hcv : ∀ w, (convert 95 9 (.slice none 0 0)).run Try.prog w = .ok (.string ByteArray.empty) w := fun _ => by kernel_rfl
        clear a2 hlt HL HOWN
        go_wp2_with fail
        go_ret2
        rw [HE.out]
        exact ⟨rfl, HBE.out⟩
      · injection hv with a1 a2 a3
        subst a1 a3
        have hback := back_in wr g k c _ (bytesIn_of_owns HOWN.out HL.out) HL.out
        clear HOWN
        go_wp2_with fail
        go_ret2
        rw [HE.out]
        exact ⟨rfl, HBE.out⟩
end Go.Proofs.Ytbajgpbekanodaa
