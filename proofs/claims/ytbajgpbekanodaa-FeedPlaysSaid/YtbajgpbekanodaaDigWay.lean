/- The walks over digest's sides, way and Proves, over whatever digest Sum makes. Conditions: a leaf is at most 2^30 bytes. -/
import Derived.Test.YtbajgpbekanodaaDigProof
namespace Go.Proofs.Ytbajgpbekanodaa
open Go.RowKit

theorem infoBool : (Try.prog.info? 4).map (fun i => (i.zero, i.size, i.bytes)) = some (some (.bool false), 1, 1) := by kernel_rfl

set_option maxRecDepth 100000 in
set_option maxHeartbeats 2000000 in
theorem sides_leaf (i : Int) (w : World) :
    Calls Try.prog 75 #[.int .i64 1, .int .i64 i] w fun e w' => ∃ v, e = .returned v ∧ w'.ownsRow w.heap.size 4 1 v ([] : List Bool).length (([] : List Bool).map Value.bool) ∧ Below w.heap.size w w' := by
  go_enter Try.func75, Try.ntmps75
  go_wp2_with fail
  go_ret
  exact ⟨_, rfl, World.ownsRow_nil _ _ _ _, Below.refl _ _⟩

set_option maxRecDepth 100000 in
set_option maxHeartbeats 4000000 in
theorem sides_step (n k i : Nat) (P : List Bool) (right : Bool) (hr : right = decide (i < k)) (w : World) (h2 : 2 ≤ (n : Int)) (hn : (n : Int) ≤ 9223372036854775807) (hk : k = Tre.half n) (hkn : (k : Int) < (n : Int)) (hin : (i : Int) < (n : Int)) (hP : P.length ≤ 100)
    (CP : Hid (∀ w', Below w.heap.size w w' → Calls Try.prog 75 (if i < k then #[.int .i64 (k : Int), .int .i64 (i : Int)] else #[.int .i64 ((n : Int) - (k : Int)), .int .i64 ((i : Int) - (k : Int))]) w' fun e w'' => ∃ v, e = .returned v ∧ w''.ownsRow w'.heap.size 4 1 v P.length (P.map Value.bool) ∧ Below w'.heap.size w' w'')) :
    Calls Try.prog 75 #[.int .i64 (n : Int), .int .i64 (i : Int)] w fun e w' => ∃ v, e = .returned v ∧ w'.ownsRow w.heap.size 4 1 v (P ++ [right]).length ((P ++ [right]).map Value.bool) ∧ Below w.heap.size w w' := by
  have CS := Lib.hid (fun w => split_any n h2 hn w)
  rw [← hk] at CS
  obtain ⟨i0, hi, hz0, hz1, hz2⟩ := info_parts infoBool
  have hno : ((n : Int) == 1) = false := by simp; omega
  have HPL : Hid (P.length ≤ 100) := hP
  clear hk hP
  by_cases hik : (i : Int) < (k : Int)
  · have hri : right = true := by rw [hr]; simp; omega
    rw [if_pos (by omega)] at CP
    subst hri
    clear hr
    go_enter Try.func75, Try.ntmps75
    go_wp2_with fail
    refine (CS.out _).mono ?_
    rintro e w' ⟨rfl, rfl⟩
    go_wp2_with fail
    refine (CP.out _ (Below.refl _ _)).mono ?_
    rintro e w1 ⟨v, rfl, hown, hb⟩
    clear CP CS
    go_wp2_with (at_builtin; refine wpList_append_own _ rfl _ _ 110 rfl w.heap.size 4 i0 (.bool false) 1 1 Try.underlying110 hi hz0 hz1 hz2 rfl (by decide) _ P.length _ rfl (hown.alloc _) ⟨w1.heap.size, 0, none⟩ 1 1 [.bool true] rfl rfl (cell_one_new _ _ _) ?c1 ?c2 ?c3 ?c4 ?_)
    case c1 => intro u hu; simp at hu; subst hu; rfl
    case c2 => have := HPL.out; unfold maxLen; omega
    case c3 => have := HPL.out; omega
    case c4 => have := hb.size; simp; omega
    intro v' w3 hown3 hgrow _
    have HF : Hid (w3.ownsRow w.heap.size 4 1 v' (P ++ [true]).length ((P ++ [true]).map Value.bool) ∧ Below w.heap.size w w3) :=
      ⟨by simpa using hown3, (hb.alloc hb.size _).grown hgrow (by have := hb.size; simp; omega) (fun g hg => (hown.lt g hg).1)⟩
    clear hown3 hgrow hown hb
    go_wp2_with fail
    go_ret
    exact ⟨_, rfl, HF.out.1, HF.out.2⟩
  · have hri : right = false := by rw [hr]; simp; omega
    rw [if_neg (by omega)] at CP
    subst hri
    have hd : decide (i < k) = false := by simp; omega
    clear hr
    go_enter Try.func75, Try.ntmps75
    go_wp2_with fail
    refine (CS.out _).mono ?_
    rintro e w' ⟨rfl, rfl⟩
    go_wp2_with fail
    refine (CP.out _ (Below.refl _ _)).mono ?_
    rintro e w1 ⟨v, rfl, hown, hb⟩
    clear CP CS
    go_wp2_with (at_builtin; refine wpList_append_own _ rfl _ _ 110 rfl w.heap.size 4 i0 (.bool false) 1 1 Try.underlying110 hi hz0 hz1 hz2 rfl (by decide) _ P.length _ rfl (hown.alloc _) ⟨w1.heap.size, 0, none⟩ 1 1 [.bool false] rfl rfl (cell_one_new _ _ _) ?c1 ?c2 ?c3 ?c4 ?_)
    case c1 => intro u hu; simp at hu; subst hu; rfl
    case c2 => have := HPL.out; unfold maxLen; omega
    case c3 => have := HPL.out; omega
    case c4 => have := hb.size; simp; omega
    intro v' w3 hown3 hgrow _
    have HF : Hid (w3.ownsRow w.heap.size 4 1 v' (P ++ [false]).length ((P ++ [false]).map Value.bool) ∧ Below w.heap.size w w3) :=
      ⟨by simpa using hown3, (hb.alloc hb.size _).grown hgrow (by have := hb.size; simp; omega) (fun g hg => (hown.lt g hg).1)⟩
    clear hown3 hgrow hown hb
    go_wp2_with fail
    go_ret
    exact ⟨_, rfl, HF.out.1, HF.out.2⟩
theorem sides_any (f : Nat) : ∀ (n i : Nat) (w : World), n ≤ f → i < n → n ≤ 9223372036854775807 →
    Calls Try.prog 75 #[.int .i64 (n : Int), .int .i64 (i : Int)] w fun e w' => ∃ v, e = .returned v ∧ w'.ownsRow w.heap.size 4 1 v (Tre.sidesB n i).length ((Tre.sidesB n i).map Value.bool) ∧ Below w.heap.size w w' := by
  induction f with
  | zero => intro n i w h1 h2 _; omega
  | succ f ih =>
    intro n i w h1 hin hm
    by_cases h2 : 2 ≤ n
    · obtain ⟨a1, a2, a3⟩ := Tre.half_bounds h2 (by omega)
      rw [Tre.sidesB_many n i h2 (by omega)]
      by_cases hi : i < Tre.half n
      · rw [if_pos hi]
        refine sides_step n (Tre.half n) i _ true (by simp [hi]) w (by omega) (by omega) rfl (by omega) (by omega) (by have := Tre.sides_le 63 (Tre.half n) i (by omega) (Nat.le_refl _); omega) ?_
        rw [if_pos hi]
        intro w' _
        exact ih (Tre.half n) i w' (by omega) hi (by omega)
      · rw [if_neg hi]
        refine sides_step n (Tre.half n) i _ false (by simp [hi]) w (by omega) (by omega) rfl (by omega) (by omega) (by have := Tre.sides_le 63 (n - Tre.half n) (i - Tre.half n) (by omega) (Nat.le_refl _); omega) ?_
        rw [if_neg hi]
        intro w' _
        have e1 : (n : Int) - ((Tre.half n : Nat) : Int) = ((n - Tre.half n : Nat) : Int) := by omega
        have e2 : (i : Int) - ((Tre.half n : Nat) : Int) = ((i - Tre.half n : Nat) : Int) := by omega
        rw [e1, e2]
        exact ih (n - Tre.half n) (i - Tre.half n) w' (by omega) (by omega) (by omega)
    · have : n = 1 := by omega
      subst this
      rw [Tre.sidesB_few 1 i (by omega)]
      exact sides_leaf (i : Int) w

/-! ### way -/
/-- A slice of bools that lies in memory. -/
def BoolsAt (w : World) (ao : Option Addr) (rs : List Bool) : Prop :=
  ∀ i, i < rs.length → ∃ b, ao = some ⟨b, 0, none⟩ ∧ b < w.heap.size ∧ w.cell? ⟨b, i, none⟩ = some (.bool (rs.getD i false))
theorem BoolsAt.below {w w' : World} {ao : Option Addr} {rs : List Bool} (h : BoolsAt w ao rs) (hb : Below w.heap.size w w') : BoolsAt w' ao rs := by
  intro i hi
  obtain ⟨b, ha, hlt, hc⟩ := h i hi
  have := hb.size
  exact ⟨b, ha, by omega, (hb.cell (p := ⟨b, i, none⟩) hlt).trans hc⟩
theorem bools_of_owns {w : World} {B : Nat} {v : Value} {rs : List Bool} (h : w.ownsRow B 4 1 v rs.length (rs.map Value.bool)) : ∃ ao cap, v = .slice ao rs.length cap ∧ BoolsAt w ao rs := by
  have h0 := h
  rcases h.2 with ⟨rfl, hn⟩ | ⟨g, cap, cur, rfl, hbg, hg, hnc, hcm, hcs, htake⟩
  · exact ⟨none, 0, by rw [hn], fun i hi => by omega⟩
  · refine ⟨some ⟨g, 0, none⟩, cap, rfl, fun i hi => ⟨g, rfl, ?_, ?_⟩⟩
    · rcases Nat.lt_or_ge g w.heap.size with h' | h'
      · exact h'
      · rw [Array.getElem?_eq_none h'] at hg; cases hg
    · rw [h0.cellAt i (by omega)]
      simp [List.getD, hi]
theorem owns_one (w : World) (x : Value) (t : TypeId) : (w.alloc (.cells #[x] t)).ownsRow w.heap.size t 1 (.slice (some ⟨w.heap.size, 0, none⟩) 1 1) 1 [x] :=
  ⟨rfl, .inr ⟨w.heap.size, 1, #[x], rfl, Nat.le_refl _, heap_alloc_new w _, Nat.le_refl _, by simp [maxLen], rfl, rfl⟩⟩
theorem take_snocD {α : Type} (l : List α) (j : Nat) (h : j < l.length) (d : α) : l.take (j + 1) = l.take j ++ [l.getD j d] := by
  rw [List.take_succ_eq_append_getElem h]
  simp [List.getD, h]
/-- What stands in out after some rounds. -/
def wayP (H : ByteArray → ByteArray) (t : ByteArray) (rs : List Bool) (ps : List ByteArray) (j : Nat) : List ByteArray := Tre.wayL H t (rs.take j) (ps.take j)
def topP (H : ByteArray → ByteArray) (t : ByteArray) (rs : List Bool) (ps : List ByteArray) (j : Nat) : ByteArray := Tre.topL H t (rs.take j) (ps.take j)
theorem wayP_zero (H : ByteArray → ByteArray) (t : ByteArray) (rs : List Bool) (ps : List ByteArray) : wayP H t rs ps 0 = [t] := rfl
theorem wayP_succ (H : ByteArray → ByteArray) (t : ByteArray) (rs : List Bool) (ps : List ByteArray) (j : Nat) (hl : rs.length = ps.length) (h : j < rs.length) :
    wayP H t rs ps (j + 1) = wayP H t rs ps j ++ [Tre.up H (topP H t rs ps j) (rs.getD j false) (ps.getD j ByteArray.empty)] := by
  unfold wayP topP
  rw [take_snocD rs j h false, take_snocD ps j (by omega) ByteArray.empty, Tre.wayL_snoc _ _ _ _ _ _ (by rw [List.length_take, List.length_take]; omega)]
theorem wayP_len (H : ByteArray → ByteArray) (t : ByteArray) (rs : List Bool) (ps : List ByteArray) (j : Nat) (hl : rs.length = ps.length) (h : j ≤ rs.length) : (wayP H t rs ps j).length = j + 1 := by
  unfold wayP
  rw [Tre.wayL_length _ _ _ _ (by rw [List.length_take, List.length_take]; omega), List.length_take]
  omega
theorem wayP_last (H : ByteArray → ByteArray) (t : ByteArray) (rs : List Bool) (ps : List ByteArray) (j : Nat) (hl : rs.length = ps.length) (h : j ≤ rs.length) : (wayP H t rs ps j).getD j ByteArray.empty = topP H t rs ps j := by
  unfold wayP topP
  have e : (rs.take j).length = j := by rw [List.length_take]; omega
  have := Tre.wayL_last H (rs.take j) t (ps.take j) (by rw [List.length_take, List.length_take]; omega)
  rwa [e] at this
theorem up_size (H : ByteArray → ByteArray) (hH : ∀ s, (H s).size = 32) (t : ByteArray) (r : Bool) (p : ByteArray) (hp : p.size = 32) : (Tre.up H t r p).size = 65 := by
  unfold Tre.up
  cases r
  · show (Tre.nodeB p (H t)).size = 65; rw [Tre.nodeB_size, hp, hH]
  · show (Tre.nodeB (H t) p).size = 65; rw [Tre.nodeB_size, hp, hH]
theorem way_sizes (H : ByteArray → ByteArray) (hH : ∀ s, (H s).size = 32) (t : ByteArray) (rs : List Bool) (ps : List ByteArray) (hl : rs.length = ps.length) (M : Nat) (ht : t.size ≤ M) (h65 : 65 ≤ M) :
    ∀ j, j ≤ rs.length → (∀ p ∈ ps.take j, p.size = 32) → ∀ s ∈ wayP H t rs ps j, s.size ≤ M := by
  intro j
  induction j with
  | zero => intro _ _ s hs; rw [wayP_zero] at hs; simp at hs; subst hs; exact ht
  | succ j ih =>
    intro hj hp s hs
    rw [wayP_succ H t rs ps j hl (by omega)] at hs
    have hpj : ps.getD j ByteArray.empty ∈ ps.take (j + 1) := by rw [take_snocD ps j (by omega) ByteArray.empty]; simp
    rcases List.mem_append.1 hs with hs | hs
    · exact ih (by omega) (fun p h => hp p (by rw [take_snocD ps j (by omega) ByteArray.empty]; simp [h])) s hs
    · rw [List.mem_singleton] at hs; subst hs
      rw [up_size H hH _ _ _ (hp _ hpj)]; exact h65

set_option maxRecDepth 100000 in
set_option maxHeartbeats 2000000 in
theorem way_bad (n i : Int) (leaf : ByteArray) (ap : Option Addr) (m cap : Nat) (w : World) (h : i < 0 ∨ n ≤ i) :
    Calls Try.prog 52 #[.int .i64 n, .int .i64 i, .string leaf, .slice ap m cap] w (OwnOut w [] (.bool false)) := by
  by_cases h0 : i < 0
  · clear h
    go_enter Try.func52, Try.ntmps52
    go_wp2_with fail
    go_ret2
    exact ⟨_, rfl, World.ownsRow_nil _ _ _ _, Below.refl _ _⟩
  · have h1 : n ≤ i := by omega
    clear h
    go_enter Try.func52, Try.ntmps52
    go_wp2_with fail
    go_ret2
    exact ⟨_, rfl, World.ownsRow_nil _ _ _ _, Below.refl _ _⟩
set_option maxRecDepth 100000 in
set_option maxHeartbeats 4000000 in
theorem way_in {H : ByteArray → ByteArray} (hS : SumLaw H) (n i : Nat) (leaf t : ByteArray) (ht : t = Tre.leafB leaf) (hleaf : leaf.size ≤ 1073741824) (rs : List Bool) (ps : List ByteArray) (ap : Option Addr) (m cap : Nat) (w : World) (hm : m = ps.length)
    (hin : (i : Int) < (n : Int)) (hf : StrsFit ps cap) (hc : StrsAt w ap ps) (hrl : rs.length ≤ 100)
    (CS : Hid (Calls Try.prog 75 #[.int .i64 (n : Int), .int .i64 (i : Int)] w fun e w' => ∃ v, e = .returned v ∧ w'.ownsRow w.heap.size 4 1 v rs.length (rs.map Value.bool) ∧ Below w.heap.size w w'))
    (r : List ByteArray × Bool) (hr : r = if rs.length = ps.length ∧ ps.all (fun p => decide (p.size = 32)) = true then (Tre.wayL H t rs ps, true) else ([], false)) :
    Calls Try.prog 52 #[.int .i64 (n : Int), .int .i64 (i : Int), .string leaf, .slice ap m cap] w (OwnOut w r.1 (.bool r.2)) := by
  obtain ⟨i0, hi, hz0, hz1, hz2⟩ := info_parts infoStr
  have CT := Lib.hid (leafText_any leaf (by omega))
  rw [← ht] at CT
  have ht30 : t.size ≤ 1073741825 := by rw [ht, Tre.leafB_size]; omega
  have HT30 := Lib.hid ht30
  have HCC := Lib.hid hc
  have HM := Lib.hid hm
  have HR := Lib.hid hr
  have HRL := Lib.hid hrl
  have hlm : (m : Int) ≤ 9223372036854775807 := by have h1 := hf.1; have h2 := hf.2.1; unfold maxLen at h2; omega
  obtain ⟨q, hq⟩ : ∃ q, q = rs.length := ⟨_, rfl⟩
  rw [← hq] at CS
  have HQ := Lib.hid hq
  have hq100 : (q : Int) ≤ 100 := by omega
  clear ht hleaf ht30 hc hm hr hrl hq hf
  by_cases hqm : (q : Int) = (m : Int)
  · have hqm2 : q = m := by omega
    subst hqm2
    have HLEN : Hid (rs.length = ps.length) := by show _ = _; rw [← HQ.out, HM.out]
    clear hqm
    go_enter Try.func52, Try.ntmps52
    go_wp2_with fail
    refine CS.out.mono ?_
    rintro e w1 ⟨vS, rfl, hownS, hb1⟩
    rw [HQ.out] at hownS
    obtain ⟨aS, capS, rfl, hbo⟩ := bools_of_owns hownS
    rw [← HQ.out]
    have HBO := Lib.hid hbo
    have HB1 := Lib.hid hb1
    clear hownS hbo CS hb1
    go_wp2_with fail
    refine (CT.out _).mono ?_
    rintro e w' ⟨rfl, rfl⟩
    have HOWN : Hid ((w1.alloc (.cells #[.string t] 9)).ownsRow w1.heap.size 9 1 (.slice (some ⟨w1.heap.size, 0, none⟩) (0 + 1) 1) (0 + 1) ((wayP H t rs ps 0).map Value.string)) := owns_one w1 _ _
    have HBE : Hid (Below w1.heap.size w1 (w1.alloc (.cells #[.string t] 9))) := (Below.refl _ _).alloc (Nat.le_refl _) _
    go_wp2_with fail
    go_loopw [11, 12, 13, 14, 35] (fun o _ _ _ jj wr => ∃ j g c : Nat, (j : Int) ≤ (q : Int) ∧ jj = .int .i64 (j : Int) ∧ o = .slice (some ⟨g, 0, none⟩) (j + 1) c ∧ Hid (wr.ownsRow w1.heap.size 9 1 (.slice (some ⟨g, 0, none⟩) (j + 1) c) (j + 1) ((wayP H t rs ps j).map Value.string)) ∧ Hid (Below w1.heap.size w1 wr) ∧ Hid (∀ p ∈ ps.take j, p.size = 32)) (fun _ _ _ _ jj _ => q - (intOf jj).toNat)
    case atStart => exact ⟨0, _, _, by omega, rfl, rfl, HOWN, HBE, fun p hp => by simp at hp⟩
    case round =>
      clear HOWN HBE
      obtain ⟨j, g, c, hj, rfl, rfl, HOWN, HBE, H32⟩ := hrel
      by_cases hlt : (j : Int) < (q : Int)
      · have hjr : j < rs.length := by rw [← HQ.out]; omega
        have hjp : j < ps.length := by rw [← HLEN.out]; exact hjr
        obtain ⟨bS, rfl, hbS, hcS0⟩ := HBO.out j hjr
        have hcS := (HBE.out.cell (p := ⟨bS, j, none⟩) hbS).trans hcS0
        obtain ⟨bP, offP, rfl, hbP, hcP0⟩ := HCC.out j hjp
        have hwr : Below w.heap.size w wr := HB1.out.trans (HBE.out.mono HB1.out.size)
        have hcP := (hwr.cell (p := ⟨bP, offP + j, none⟩) hbP).trans hcP0
        have hcO := HOWN.out.cellAt j (by omega)
        have hwl := wayP_len H t rs ps j HLEN.out (by omega)
        have hO : ((wayP H t rs ps j).map Value.string)[j]? = some (.string (topP H t rs ps j)) := by
          have := wayP_last H t rs ps j HLEN.out (by omega)
          simp [List.getD, hwl] at this
          simp [hwl, this]
        rw [hO] at hcO
        have HTS : Hid ((topP H t rs ps j).size ≤ 1073741825) := by
          refine way_sizes H hS.1 t rs ps HLEN.out 1073741825 HT30.out (by omega) j (by omega) H32.out _ ?_
          rw [← wayP_last H t rs ps j HLEN.out (by omega)]
          simp [List.getD, hwl]
        have HSU := Lib.hid (wayP_succ H t rs ps j HLEN.out hjr)
        have H32b : Hid ((ps.getD j ByteArray.empty).size = 32 → ∀ p ∈ ps.take (j + 1), p.size = 32) := fun h p hp => by
          rw [take_snocD ps j hjp ByteArray.empty] at hp
          rcases List.mem_append.1 hp with hp | hp
          · exact H32.out p hp
          · simp at hp; subst hp; exact h
        have HBAD : Hid ((ps.getD j ByteArray.empty).size ≠ 32 → r = ([], false)) := fun h => by
          rw [HR.out, if_neg]
          rintro ⟨_, h2⟩
          have e : ps.getD j ByteArray.empty = ps[j] := by simp [List.getD, hjp]
          rw [e] at h
          have := List.all_eq_true.1 h2 ps[j] (List.getElem_mem hjp)
          simp at this
          exact h this
        have CSU := Lib.hid (fun ao w h => sum_one hS (topP H t rs ps j) (by have := HTS.out; omega) ao w h)
        generalize ps.getD j ByteArray.empty = p at *
        generalize rs.getD j false = right at *
        have HH := Lib.hid (hS.1 (topP H t rs ps j))
        generalize topP H t rs ps j = tp at *
        clear hcS0 hcP0 hwl hO hjr hjp HTS H32 hwr
        by_cases hp : (p.size : Int) = 32
        · have hp2 : p.size = 32 := by omega
          have H32c := Lib.hid (H32b.out hp2)
          have CN1 := Lib.hid (nodeText_any (H tp) p (by have := HH.out; omega) (by omega))
          have CN2 := Lib.hid (nodeText_any p (H tp) (by omega) (by have := HH.out; omega))
          have HP := Lib.hid hp
          have hpb : ((p.size : Int) != 32) = false := by rw [hp]; rfl
          clear hp hp2 H32b HBAD
          go_wp2_with fail
          refine (CSU.out _ _ (strs_new _ _ _ _ rfl _ rfl)).mono ?_
          rintro e w2 ⟨rfl, hb2⟩
          have hbw2 : Below wr.heap.size wr w2 := ((Below.refl _ _).alloc (Nat.le_refl _) _).trans (hb2.mono (by simp))
          have HOWN2 := Lib.hid (owns_kept HOWN.out hbw2 (Nat.le_refl _))
          have HBE2 := Lib.hid (HBE.out.trans (hbw2.mono HBE.out.size))
          have hcP2 := (hbw2.cell (p := ⟨bP, offP + j, none⟩) (by have := HBE.out.size; have := HB1.out.size; simp; omega)).trans hcP
          clear hb2 hbw2 HOWN HBE hcP hcS hcO CSU hbS
          cases right
          · go_wp2_with fail
            refine (CN2.out _).mono ?_
            rintro e w' ⟨rfl, rfl⟩
            have hown2 := HOWN2.out
            clear hcP2
            go_wp2_with (at_builtin; refine wpList_append_own _ rfl _ _ 22 rfl w1.heap.size 9 i0 (.string ByteArray.empty) 1 16 Try.underlying22 hi hz0 hz1 hz2 rfl (by decide) _ (j + 1) _ rfl (hown2.alloc _) ⟨w2.heap.size, 0, none⟩ 1 1 [.string (Tre.nodeB p (H tp))] rfl rfl (cell_one_new _ _ _) ?c1 ?c2 ?c3 ?c4 ?_)
            case c1 => intro u hu; simp at hu; subst hu; rfl
            case c2 => unfold maxLen; omega
            case c3 => omega
            case c4 => have := HBE2.out.size; simp; omega
            intro v' w3 hown3 hgrow _
            obtain ⟨g', c', rfl⟩ := own_form hown3
            have HBE3 : Hid (Below w1.heap.size w1 w3) := (HBE2.out.alloc HBE2.out.size _).grown hgrow (by have := HBE2.out.size; simp; omega) (fun g hg => (hown2.lt g hg).1)
            have HOWN3 : Hid (w3.ownsRow w1.heap.size 9 1 (.slice (some ⟨g', 0, none⟩) (j + 1 + 1) c') (j + 1 + 1) ((wayP H t rs ps (j + 1)).map Value.string)) := by
              rw [HSU.out]
              have e : Tre.up H tp false p = Tre.nodeB p (H tp) := rfl
              rw [e]
              show World.ownsRow _ _ _ _ _ _ _
              simpa using hown3
            clear hown3 hown2 hgrow HOWN2 HBE2
            go_wp2_with fail
            go_roundw
            case rel => exact ⟨j + 1, g', c', by omega, by go_num, rfl, HOWN3, HBE3, H32c⟩
            case measure => simp [intOf]; omega
          · go_wp2_with fail
            refine (CN1.out _).mono ?_
            rintro e w' ⟨rfl, rfl⟩
            have hown2 := HOWN2.out
            clear hcP2
            go_wp2_with (at_builtin; refine wpList_append_own _ rfl _ _ 22 rfl w1.heap.size 9 i0 (.string ByteArray.empty) 1 16 Try.underlying22 hi hz0 hz1 hz2 rfl (by decide) _ (j + 1) _ rfl (hown2.alloc _) ⟨w2.heap.size, 0, none⟩ 1 1 [.string (Tre.nodeB (H tp) p)] rfl rfl (cell_one_new _ _ _) ?c1 ?c2 ?c3 ?c4 ?_)
            case c1 => intro u hu; simp at hu; subst hu; rfl
            case c2 => unfold maxLen; omega
            case c3 => omega
            case c4 => have := HBE2.out.size; simp; omega
            intro v' w3 hown3 hgrow _
            obtain ⟨g', c', rfl⟩ := own_form hown3
            have HBE3 : Hid (Below w1.heap.size w1 w3) := (HBE2.out.alloc HBE2.out.size _).grown hgrow (by have := HBE2.out.size; simp; omega) (fun g hg => (hown2.lt g hg).1)
            have HOWN3 : Hid (w3.ownsRow w1.heap.size 9 1 (.slice (some ⟨g', 0, none⟩) (j + 1 + 1) c') (j + 1 + 1) ((wayP H t rs ps (j + 1)).map Value.string)) := by
              rw [HSU.out]
              have e : Tre.up H tp true p = Tre.nodeB (H tp) p := rfl
              rw [e]
              show World.ownsRow _ _ _ _ _ _ _
              simpa using hown3
            clear hown3 hown2 hgrow HOWN2 HBE2
            go_wp2_with fail
            go_roundw
            case rel => exact ⟨j + 1, g', c', by omega, by go_num, rfl, HOWN3, HBE3, H32c⟩
            case measure => simp [intOf]; omega
        · have hpb : ((p.size : Int) != 32) = true := by simpa using hp
          have hpb2 : ((p.size : Int) == 32) = false := by simpa using hp
          have HE := Lib.hid (HBAD.out (by omega))
          clear hp HBAD H32b
          go_wp2_with fail
          go_ret2
          rw [HE.out]
          exact ⟨_, rfl, World.ownsRow_nil _ _ _ _, HB1.out.trans (HBE.out.mono HB1.out.size)⟩
      · obtain rfl : j = q := by omega
        have HE : Hid (r = (wayP H t rs ps j, true)) := by
          show _ = _
          have e1 : rs.take j = rs := by rw [HQ.out]; exact List.take_length
          have e2 : ps.take j = ps := by rw [HQ.out, HLEN.out]; exact List.take_length
          have h32 := H32.out
          rw [e2] at h32
          rw [HR.out, if_pos ⟨HLEN.out, List.all_eq_true.2 fun p hp => by simpa using h32 p hp⟩]
          unfold wayP
          rw [e1, e2]
        have HL := Lib.hid (wayP_len H t rs ps j HLEN.out (by rw [HQ.out]; exact Nat.le_refl _))
        go_wp2_with fail
        go_ret2
        rw [HE.out]
        refine ⟨_, rfl, ?_, HB1.out.trans (HBE.out.mono HB1.out.size)⟩
        have h := owns_base HOWN.out HB1.out.size
        simp only
        rw [HL.out]
        exact h
  · have hqb : ((q : Int) != (m : Int)) = true := by simpa using hqm
    have hqb3 : ((q : Int) == (m : Int)) = false := by simpa using hqm
    have HE : Hid (r = ([], false)) := by
      show _ = _
      rw [HR.out, if_neg]
      rintro ⟨h1, _⟩
      have h2 := HQ.out
      have h3 := HM.out
      omega
    clear hqm
    go_enter Try.func52, Try.ntmps52
    go_wp2_with fail
    refine CS.out.mono ?_
    rintro e w1 ⟨vS, rfl, hownS, hb1⟩
    rw [HQ.out] at hownS
    obtain ⟨aS, capS, rfl, hbo⟩ := bools_of_owns hownS
    rw [← HQ.out]
    clear hownS hbo CS
    go_wp2_with fail
    go_ret2
    rw [HE.out]
    exact ⟨_, rfl, World.ownsRow_nil _ _ _ _, hb1⟩
theorem way_any {H : ByteArray → ByteArray} (hS : SumLaw H) (n i : Int) (hn : n ≤ 9223372036854775807) (leaf : ByteArray) (hleaf : leaf.size ≤ 1073741824) (ps : List ByteArray) (ap : Option Addr) (cap : Nat) (w : World)
    (hf : StrsFit ps cap) (hc : StrsAt w ap ps) :
    Calls Try.prog 52 #[.int .i64 n, .int .i64 i, .string leaf, .slice ap ps.length cap] w (OwnOut w (Tre.wayR H n i leaf ps).1 (.bool (Tre.wayR H n i leaf ps).2)) := by
  by_cases h : i < 0 ∨ n ≤ i
  · have e : Tre.wayR H n i leaf ps = ([], false) := by
      unfold Tre.wayR
      rw [if_neg]
      unfold Tre.fits
      intro hh
      simp at hh
      omega
    rw [e]
    exact way_bad n i leaf ap _ cap w h
  · obtain ⟨N, rfl⟩ := Int.eq_ofNat_of_zero_le (show 0 ≤ n by omega)
    obtain ⟨I, rfl⟩ := Int.eq_ofNat_of_zero_le (show 0 ≤ i by omega)
    have hin : I < N := by omega
    refine way_in hS N I leaf (Tre.leafB leaf) rfl hleaf (Tre.sidesB N I) ps ap _ cap w rfl (by omega) hf hc ?_ (sides_any N N I w (Nat.le_refl _) hin (by omega)) _ ?_
    · have := Tre.sides_le 63 N I (by omega) (by omega)
      omega
    · unfold Tre.wayR Tre.fits
      have e1 : (decide ((0 : Int) ≤ (I : Int)) && decide ((I : Int) < (N : Int))) = true := by simp; omega
      have t1 : ((N : Int)).toNat = N := by omega
      have t2 : ((I : Int)).toNat = I := by omega
      rw [e1, t1, t2]
      by_cases h1 : (Tre.sidesB N I).length = ps.length
      · by_cases h2 : ps.all (fun p => decide (p.size = 32)) = true
        · rw [if_pos (by rw [h2]; simp [h1]), if_pos ⟨h1, h2⟩]
        · rw [if_neg (by rw [Bool.not_eq_true] at h2; rw [h2]; simp), if_neg (fun h => h2 h.2)]
      · rw [if_neg (by simp [h1]), if_neg (fun h => h1 h.1)]
end Go.Proofs.Ytbajgpbekanodaa
