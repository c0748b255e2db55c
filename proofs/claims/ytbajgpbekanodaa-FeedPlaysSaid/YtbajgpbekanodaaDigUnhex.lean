/- The walk over digest's Unhex. -/
import Derived.Test.YtbajgpbekanodaaDigHex
namespace Go.Proofs.Ytbajgpbekanodaa
open Go.RowKit

/-- What IndexByte tells of a digit. -/
def digI (c : Nat) : Int := match undig (UInt8.ofNat c) with
  | some n => (n : Int)
  | none => -1
theorem index_dig (c : Nat) (h : c < 256) : Lib.indexByte ([48, 49, 50, 51, 52, 53, 54, 55, 56, 57, 97, 98, 99, 100, 101, 102] : List UInt8) ((c : Int).toNat.toUInt8) = digI c := by
  have : ∀ c : Fin 256, Lib.indexByte ([48, 49, 50, 51, 52, 53, 54, 55, 56, 57, 97, 98, 99, 100, 101, 102] : List UInt8) ((c.val : Int).toNat.toUInt8) = digI c.val := by decide +kernel
  exact this ⟨c, h⟩
theorem indexDig_any (c : Nat) (h : c < 256) (w : World) :
    Calls Try.prog 60 #[.string ⟨#[48, 49, 50, 51, 52, 53, 54, 55, 56, 57, 97, 98, 99, 100, 101, 102]⟩, .int .u8 (c : Int)] w fun e w' => e = .returned (.int .i64 (digI c)) ∧ w' = w := by
  have := Try.strings_IndexByte ⟨#[48, 49, 50, 51, 52, 53, 54, 55, 56, 57, 97, 98, 99, 100, 101, 102]⟩ (c : Int) w
  rw [show (⟨#[48, 49, 50, 51, 52, 53, 54, 55, 56, 57, 97, 98, 99, 100, 101, 102]⟩ : ByteArray).data.toList = [48, 49, 50, 51, 52, 53, 54, 55, 56, 57, 97, 98, 99, 100, 101, 102] from rfl, index_dig c h] at this
  exact this
theorem digI_some (c : UInt8) (n : Nat) (h : undig c = some n) : digI c.toNat = (n : Int) := by
  unfold digI
  rw [UInt8.ofNat_toNat, h]
theorem digI_none (c : UInt8) (h : undig c = none) : digI c.toNat = -1 := by
  unfold digI
  rw [UInt8.ofNat_toNat, h]
theorem drop_two (s : ByteArray) (k : Nat) (h : k + 1 < s.size) : s.data.toList.drop k = s[k] :: s[k + 1] :: s.data.toList.drop (k + 2) := by
  have hl : k + 1 < s.data.toList.length := by simpa using h
  rw [List.drop_eq_getElem_cons (by omega), List.drop_eq_getElem_cons hl]
  rfl
theorem or_dig (x y : Nat) (hx : x < 16) (hy : y < 16) : bits BinOp.or IntKind.i64 ((x : Int) * 16) (y : Int) = ((16 * x + y : Nat) : Int) := by
  have : ∀ x y : Fin 16, bits BinOp.or IntKind.i64 ((x.val : Int) * 16) (y.val : Int) = ((16 * x.val + y.val : Nat) : Int) := by decide +kernel
  exact this ⟨x, hx⟩ ⟨y, hy⟩

set_option maxRecDepth 100000 in
set_option maxHeartbeats 2000000 in
theorem unhex_odd_any (s : ByteArray) (hs : s.size ≤ 1099511627776) (ho : s.size % 2 = 1) (w : World) :
    Calls Try.prog 23 #[.string s] w fun e w' => e = .returned (.tuple #[.string ByteArray.empty, .int .i64 2]) ∧ Below w.heap.size w w' := by
  have h1 : (s.size : Int) % 2 = 1 := by omega
  have h2 : (s.size : Int).tmod 2 = 1 := by rw [Int.tmod_eq_emod_of_nonneg (by omega)]; exact h1
  clear ho
  go_enter Try.func23, Try.ntmps23
  go_wp2_with fail
  go_ret2
  exact ⟨rfl, Below.refl _ _⟩

set_option maxRecDepth 100000 in
set_option maxHeartbeats 2000000 in
theorem unhex_even_any (s : ByteArray) (m : Nat) (hm : s.size = 2 * m) (hs : s.size ≤ 1099511627776) (w : World) :
    Calls Try.prog 23 #[.string s] w fun e w' => e = .returned (.tuple #[.string (unhexB s).1, .int .i64 (unhexB s).2]) ∧ Below w.heap.size w w' := by
  obtain ⟨i0, hi, hz0, hz1, hz2⟩ := info_parts infoByte
  obtain ⟨u, hu⟩ : ∃ u, u = unhexB s := ⟨_, rfl⟩
  have HU := Lib.hid hu
  rw [← hu]
  have HM := Lib.hid hm
  have hn40 : (s.size : Int) ≤ 1099511627776 := by omega
  have h1 : (s.size : Int) % 2 = 0 := by omega
  have h2 : (s.size : Int).tmod 2 = 0 := by rw [Int.tmod_eq_emod_of_nonneg (by omega)]; exact h1
  have h3 : (s.size : Int) / 2 = (m : Int) := by omega
  have h4 : (s.size : Int).tdiv 2 = (m : Int) := by rw [Int.tdiv_eq_ediv_of_nonneg (by omega)]; exact h3
  clear hu hm hs
  go_enter Try.func23, Try.ntmps23
  go_wp2_with (at_make; refine wpList_make_own _ rfl _ _ 95 rfl w.heap.size 5 i0 (.int .u8 0) 1 Try.underlying95 hi hz0 hz1 .i64 .i64 _ m rfl rfl ?b1 ?b2 ?b3 ?b4 ?_)
  case b1 => rfl
  case b2 => have := HM.out; rw [hz2]; omega
  case b3 => have := HM.out; unfold maxLen; omega
  case b4 => exact Nat.le_refl _
  intro w1 hown1 hgrow1
  have HOWN : Hid (w1.ownsRow w.heap.size 5 1 (.slice (some ⟨w.heap.size, 0, none⟩) 0 m) 0 (([] : List UInt8).map byteV)) := hown1
  have HBE : Hid (Below w.heap.size w w1) := (Below.refl _ _).grown hgrow1 (Nat.le_refl _) (fun q hq => by cases hq)
  have H0 : Hid (unhexL s.data.toList = (unhexL (s.data.toList.drop (2 * 0))).map ([] ++ ·)) := by show _ = _; cases h : unhexL s.data.toList <;> simp [h]
  clear hown1 hgrow1 h1 h2 h3 h4
  go_wp2_with fail
  go_loopw [4, 5] (fun o i wr => ∃ (k g c : Nat) (r : List UInt8), (k : Int) ≤ (m : Int) ∧ i = .int .i64 (2 * (k : Int)) ∧ o = .slice (some ⟨g, 0, none⟩) k c ∧
      Hid (wr.ownsRow w.heap.size 5 1 (.slice (some ⟨g, 0, none⟩) k c) k (r.map byteV)) ∧ Hid (r.length = k) ∧ Hid (unhexL s.data.toList = (unhexL (s.data.toList.drop (2 * k))).map (r ++ ·)) ∧ Hid (Below w.heap.size w wr)) (fun _ i _ => 2 * m - (intOf i).toNat)
  case atStart => exact ⟨0, _, _, [], by omega, rfl, rfl, HOWN, rfl, H0, HBE⟩
  case round =>
    clear HOWN HBE H0
    obtain ⟨k, g, c, r, hk, rfl, rfl, HOWN, HL, HR, HBE⟩ := hrel
    by_cases hlt : (k : Int) < (m : Int)
    · have hks : 2 * (k : Int) < (s.size : Int) := by have := HM.out; omega
      have hks1 : 2 * (k : Int) + 1 < (s.size : Int) := by have := HM.out; omega
      have hk0 : (0 : Int) ≤ 2 * (k : Int) := by omega
      have hk1 : (0 : Int) ≤ 2 * (k : Int) + 1 := by omega
      have ht0 : (2 * (k : Int)).toNat = 2 * k := by omega
      have ht1 : (2 * (k : Int) + 1).toNat = 2 * k + 1 := by omega
      have q1 : IntKind.i64.wrap (2 * (k : Int) + 1) = 2 * (k : Int) + 1 := IntWalk.i64_in _ ⟨by omega, by omega⟩
      have HD := Lib.hid (drop_two s (2 * k) (by omega))
      have C1 := Lib.hid (fun w => indexDig_any s[2 * k].toNat s[2 * k].toNat_lt w)
      have C2 := Lib.hid (fun w => indexDig_any s[2 * k + 1].toNat s[2 * k + 1].toNat_lt w)
      have HG1 := Lib.hid (digI_some s[2 * k])
      have HG2 := Lib.hid (digI_some s[2 * k + 1])
      have HN1 := Lib.hid (digI_none s[2 * k])
      have HN2 := Lib.hid (digI_none s[2 * k + 1])
      have hkm := hlt
      clear hlt
      cases h1 : undig s[2 * k] with
      | none =>
        have HE : Hid (u = (ByteArray.empty, 2)) := by
          show _ = _
          rw [HU.out]
          unfold unhexB
          rw [HR.out, HD.out, unhex_bad _ _ _ (Or.inl h1)]
          rfl
        have C1' := Lib.hid (fun w => by have := C1.out w; rw [HN1.out h1] at this; exact this)
        have C2' := Lib.hid (fun w => C2.out w)
        generalize digI s[2 * k + 1].toNat = z at *
        clear h1 C1 C2 HG1 HG2 HN1 HN2 HD HR HOWN
        go_wp2_with fail
        go_quiet (first
          | (go_at_call 60; refine Calls.quiet_of_same (C1'.out _))
          | (go_at_call 60; refine Calls.quiet_of_same (C2'.out _)))
        go_wp2_with fail
        go_ret2
        rw [HE.out]
        exact ⟨rfl, below_drewN HBE.out _⟩
      | some x =>
        cases h2 : undig s[2 * k + 1] with
        | none =>
          have HE : Hid (u = (ByteArray.empty, 2)) := by
            show _ = _
            rw [HU.out]
            unfold unhexB
            rw [HR.out, HD.out, unhex_bad _ _ _ (Or.inr h2)]
            rfl
          have C1' := Lib.hid (fun w => by have := C1.out w; rw [HG1.out x h1] at this; exact this)
          have C2' := Lib.hid (fun w => by have := C2.out w; rw [HN2.out h2] at this; exact this)
          clear h1 h2 C1 C2 HG1 HG2 HN1 HN2 HD HR HOWN
          go_wp2_with fail
          go_quiet (first
            | (go_at_call 60; refine Calls.quiet_of_same (C1'.out _))
            | (go_at_call 60; refine Calls.quiet_of_same (C2'.out _)))
          go_wp2_with fail
          go_ret2
          rw [HE.out]
          exact ⟨rfl, below_drewN HBE.out _⟩

        | some y =>
          obtain ⟨hx, _⟩ := digB_undig _ x h1
          obtain ⟨hy, _⟩ := digB_undig _ y h2
          have C1' := Lib.hid (fun w => by have := C1.out w; rw [HG1.out x h1] at this; exact this)
          have C2' := Lib.hid (fun w => by have := C2.out w; rw [HG2.out y h2] at this; exact this)
          have HSTEP := Lib.hid (unhex_step _ _ (s.data.toList.drop (2 * k + 2)) x y h1 h2)
          have hor := or_dig x y hx hy
          obtain ⟨z, hz⟩ : ∃ z, z = UInt8.ofNat (16 * x + y) := ⟨_, rfl⟩
          rw [← hz] at HSTEP
          have hzv : z.toNat = 16 * x + y := by rw [hz]; simp [UInt8.toNat_ofNat']; omega
          have HZ := Lib.hid hzv
          clear hz hzv
          have hx1 : (x : Int) < 16 := by omega
          have hy1 : (y : Int) < 16 := by omega
          clear h1 h2 C1 C2 HG1 HG2 HN1 HN2 hx hy
          go_wp2_with fail
          go_quiet (first
            | (go_at_call 60; refine Calls.quiet_of_same (C1'.out _))
            | (go_at_call 60; refine Calls.quiet_of_same (C2'.out _)))
          have HOWNd : Hid ((wr.drewN nq).ownsRow w.heap.size 5 1 (.slice (some ⟨g, 0, none⟩) k c) k (r.map byteV)) := HOWN.out
          have HBEd : Hid (Below w.heap.size w (wr.drewN nq)) := below_drewN HBE.out nq
          clear HOWN HBE
          generalize wr.drewN nq = wd at *
          have hown := HOWNd.out
          go_wp2_with (at_builtin; refine wpList_append_own _ rfl _ _ 95 rfl w.heap.size 5 i0 (.int .u8 0) 1 1 Try.underlying95 hi hz0 hz1 hz2 rfl (by decide) _ k _ rfl (hown.alloc _) ⟨wd.heap.size, 0, none⟩ 1 1 [byteV (z)] rfl rfl ?c0 ?c1 ?c2 ?c3 ?c4 ?_)
          case c0 =>
            have e : byteV z = .int .u8 (16 * (x : Int) + (y : Int)) := by
              show Value.int .u8 (z.toNat : Int) = _
              rw [HZ.out]; push_cast; rfl
            rw [e]
            exact cells_new _ [_] _
          case c1 => intro u hu; simp at hu; subst hu; rfl
          case c2 => have := HM.out; unfold maxLen; omega
          case c3 => have := HM.out; omega
          case c4 => have := HBEd.out.size; simp; omega
          intro v' w3 hown3 hgrow _
          obtain ⟨g', c', rfl⟩ := own_form hown3
          have HBE3 : Hid (Below w.heap.size w w3) := (HBEd.out.alloc HBEd.out.size _).grown hgrow (by have := HBEd.out.size; simp; omega) (fun g hg => (hown.lt g hg).1)
          have HOWN3 : Hid (w3.ownsRow w.heap.size 5 1 (.slice (some ⟨g', 0, none⟩) (k + 1) c') (k + 1) ((r ++ [z]).map byteV)) := by
            rw [List.map_append]; show World.ownsRow _ _ _ _ _ _ _; exact hown3
          have HR3 : Hid (unhexL s.data.toList = (unhexL (s.data.toList.drop (2 * (k + 1)))).map ((r ++ [z]) ++ ·)) := by
            show _ = _
            rw [HR.out, HD.out, HSTEP.out, show 2 * (k + 1) = 2 * k + 2 by omega]
            cases unhexL (s.data.toList.drop (2 * k + 2)) <;> simp
          have HL3 : Hid ((r ++ [z]).length = k + 1) := by show _ = _; rw [List.length_append, HL.out]; rfl
          clear hown3 hown hgrow HOWNd HBEd HR HD HSTEP
          go_wp2_with fail
          go_roundw
          case rel => exact ⟨k + 1, g', c', _, by omega, by go_num, rfl, HOWN3, HL3, HR3, HBE3⟩
          case measure => simp [intOf]; omega
    · obtain rfl : k = m := by omega
      have hks : ¬ 2 * (k : Int) < (s.size : Int) := by have := HM.out; omega
      have hback := back_in wr g k c _ (bytesIn_of_owns HOWN.out HL.out) HL.out
      have HE : Hid (u = (bytesB r, 0)) := by
        show _ = _
        rw [HU.out]
        unfold unhexB
        rw [HR.out, List.drop_of_length_le (by have := HM.out; simp; omega)]
        simp [unhexL]
      clear hlt HOWN
      go_wp2_with fail
      go_ret2
      rw [HE.out]
      exact ⟨rfl, HBE.out⟩

theorem unhex_any (s : ByteArray) (hs : s.size ≤ 1099511627776) (w : World) :
    Calls Try.prog 23 #[.string s] w fun e w' => e = .returned (.tuple #[.string (unhexB s).1, .int .i64 (unhexB s).2]) ∧ Below w.heap.size w w' := by
  by_cases h : s.size % 2 = 1
  · have e : unhexB s = (ByteArray.empty, 2) := by
      unfold unhexB
      rw [unhex_odd _ (by simpa using h)]
    rw [e]
    exact unhex_odd_any s hs h w
  · exact unhex_even_any s (s.size / 2) (by omega) hs w
end Go.Proofs.Ytbajgpbekanodaa
