/- The walks over frame.frames (an iterator) and frame.Scan (a range over it): what each call returns. Condition: the text is at most 2^42 bytes. -/
import Derived.RangeFuncBox
import Derived.RangeFuncLeaves
import Derived.Shelf.Abstract
import Derived.OwnWalkIn
import Derived.TacticsInMore
import Derived.LoopNIn
import Derived.LoopIn
import Derived.BigQuiet
import Derived.Test.YtbhadaiijcdlkaaFrmScan
namespace Go.Proofs.Ytbhadaiijcdlkaa
open Go.RowKit Go.Shelf

attribute [local go_sem] Oper.semAt_some

/-- The bodies that stand, each with the place behind it. -/
def prs (s : ByteArray) : Nat → Nat → List (ByteArray × Nat)
  | 0, _ => []
  | n + 1, p => if (Frm.ftB s p).2.2 ≠ 0 then [] else ((Frm.ftB s p).1, (Frm.ftB s p).2.1) :: prs s n (Frm.ftB s p).2.1
def lastTo (p : Nat) (l : List (ByteArray × Nat)) : Nat := (l.getLast?.map (·.2)).getD p
theorem lastTo_snoc (p : Nat) (l : List (ByteArray × Nat)) (x : ByteArray × Nat) : lastTo p (l ++ [x]) = x.2 := by unfold lastTo; simp
theorem lastTo_cons (p : Nat) (l : List (ByteArray × Nat)) (x : ByteArray × Nat) : lastTo p (x :: l) = lastTo x.2 l := by
  unfold lastTo
  cases l with
  | nil => simp
  | cons y r =>
    rw [List.getLast?_cons_cons]
    have h : (y :: r).getLast? = some ((y :: r).getLast (by simp)) := List.getLast?_eq_some_getLast (by simp)
    rw [h]; rfl
theorem prs_scF (s : ByteArray) : ∀ (n p : Nat) (acc : List ByteArray), Frm.scF s n p acc = (acc ++ (prs s n p).map (·.1), lastTo p (prs s n p)) := by
  intro n
  induction n with
  | zero => intro p acc; simp [Frm.scF, prs, lastTo]
  | succ n ih =>
    intro p acc
    rw [Frm.scF, prs]
    by_cases h : (Frm.ftB s p).2.2 = 0
    · simp only [h, ne_eq, not_true_eq_false, if_false]
      rw [ih, lastTo_cons]
      simp
    · simp only [ne_eq, h, not_false_eq_true, if_true]
      simp [lastTo]
theorem prs_scB (s : ByteArray) : Frm.scB s = ((prs s (s.size + 1) 0).map (·.1), lastTo 0 (prs s (s.size + 1) 0)) := by
  unfold Frm.scB; rw [prs_scF]; simp
theorem prs_few (s : ByteArray) : 5 * (prs s (s.size + 1) 0).length ≤ s.size := by
  have := (Frm.scB_form s).2.2.2
  rw [prs_scB] at this
  simpa using this
theorem prs_fit (s : ByteArray) : ∀ t ∈ (prs s (s.size + 1) 0).map (·.1), t.size ≤ 20000 := by
  have := (Frm.scB_form s).2.1
  rw [prs_scB] at this
  exact this

/-- What holds between two rounds of the iterator. -/
structure Going (s : ByteArray) (Bn : Nat) (J : List (ByteArray × Nat) → World → Prop) (pre : List (ByteArray × Nat)) (q : Nat) (wr : World) : Prop where
  all : ∃ m, prs s (s.size + 1) 0 = pre ++ prs s m q ∧ s.size < q + m
  inside : q ≤ s.size
  j : J pre wr
  box : wr.cell? ⟨Bn, 0, none⟩ = some (.string s)
  lt : Bn < wr.heap.size

theorem grown_of_below {w w' : World} (h : Below w.heap.size w w') : w.grownBy w' none := ⟨h.os, h.tape, h.output, h.size, fun k hk _ => h.block k hk⟩

theorem Going.step {s : ByteArray} {Bn : Nat} {J : List (ByteArray × Nat) → World → Prop} {pre : List (ByteArray × Nat)} {q : Nat} {wr : World} (h : Going s Bn J pre q wr) {t : ByteArray} {q' e : Nat} (hx : Frm.ftB s (q : Int) = (t, q', e)) :
    (e ≠ 0 → pre = prs s (s.size + 1) 0) ∧ (e = 0 → q < q' ∧ q' ≤ s.size ∧ pre.length < (prs s (s.size + 1) 0).length ∧ ∃ m, prs s (s.size + 1) 0 = pre ++ [(t, q')] ++ prs s m q' ∧ s.size < q' + m) := by
  obtain ⟨m, h1, h2⟩ := h.all
  have h3 := h.inside
  cases m with
  | zero => omega
  | succ m =>
    rw [show prs s (m + 1) q = if (Frm.ftB s q).2.2 ≠ 0 then [] else ((Frm.ftB s q).1, (Frm.ftB s q).2.1) :: prs s m (Frm.ftB s q).2.1 from rfl, hx] at h1
    simp only at h1
    refine ⟨fun he => ?_, fun he => ?_⟩
    · rw [if_pos he] at h1; simpa using h1.symm
    · subst he
      rw [if_neg (by simp)] at h1
      obtain ⟨P, hP, h4, h5, _⟩ := Frm.ftB_form hx
      exact ⟨by omega, h5, by rw [h1]; simp, m, by rw [h1]; simp, by omega⟩

set_option maxRecDepth 100000 in
set_option maxHeartbeats 2000000 in
theorem frames1_in (s : ByteArray) (hs : s.size ≤ 4398046511104) (n : Nat) (l Bn : Nat) (J Jx : List (ByteArray × Nat) → World → Prop) (Kp : World → World → Prop) (hKp : ∀ W W' : World, Kp W W' → W.heap.size ≤ W'.heap.size ∧ W'.heap[Bn]? = W.heap[Bn]?)
    (W : World) (hJ : AbidesFrom W.heap.size J)
    (hY : ∀ pre x W, J pre W → pre.length < (prs s (s.size + 1) 0).length → YieldAt Fence.wide (n - 1) Try.prog l #[.string x.1, .int .i64 (x.2 : Nat)] W fun e W' =>
      (e = .returned (.bool true) ∧ J (pre ++ [x]) W' ∧ Kp W W') ∨ (e = .returned (.bool false) ∧ Jx (pre ++ [x]) W'))
    (hBn : W.cell? ⟨Bn, 0, none⟩ = some (.string s)) (hlt : Bn < W.heap.size) (h0 : J [] W) :
    CallsIn Fence.wide n Try.prog 34 #[.func (.yield l) #[] #[], .pointer (some ⟨Bn, 0, none⟩)] W fun e W' => (∃ v, e = .returned v) ∧
      ((∃ ys, ys = prs s (s.size + 1) 0 ∧ J ys W') ∨ (∃ pre, True ∧ Jx pre W')) := by
  have C2 := Lib.hid (fun (q : Nat) w => frameTake_any s (q : Int) w (by omega))
  have HG0 : Hid (Going s Bn J [] 0 W) := ⟨⟨s.size + 1, by simp, by omega⟩, Nat.zero_le _, h0, hBn, hlt⟩
  have HJ := Lib.hid hJ
  have HY := Lib.hid hY
  have HKp := Lib.hid hKp
  clear hJ hY hBn hlt h0 hs hKp
  refine callsIn_of_wp Try.func34 rfl trivial ?_ rfl
  simp only [Try.ntmps34, List.size_toArray, List.length_cons, List.length_nil, Nat.reduceAdd, Nat.reduceSub, Array.replicate_succ, Array.replicate_zero, List.push_toArray, List.append_toArray, List.nil_append, List.cons_append]
  gi_wp2
  gi_loopw [3] (fun at_ wr => ∃ (q : Nat) (pre : List (ByteArray × Nat)), at_ = .int .i64 (q : Int) ∧ Hid (Going s Bn J pre q wr) ∧ Hid (W.heap.size ≤ wr.heap.size)) (fun at_ _ => s.size - (intOf at_).toNat)
  case atStart => exact ⟨0, [], rfl, HG0, Nat.le_refl _⟩
  case round =>
    clear HG0
    obtain ⟨q, pre, rfl, HG, HW⟩ := hrel
    obtain ⟨x, hx⟩ : ∃ x, Frm.ftB s (q : Int) = x := ⟨_, rfl⟩
    obtain ⟨t, q', e⟩ := x
    have st := HG.out.step hx
    have hC := C2.out q wr
    rw [hx] at hC
    unfold tripT at hC
    have HC := Lib.hid hC
    have hbox := HG.out.box
    clear hx hC
    by_cases he2 : (e : Int) = 0
    · obtain rfl : e = 0 := by omega
      have hst := Lib.hid (st.2 rfl)
      clear st
      gi_wp2_with fail
      refine ⟨trivial, (fun h => by cases h), ?_⟩
      refine (callsIn_wide.2 HC.out).mono ?_
      rintro e w2 ⟨rfl, hb2⟩
      have hJ2 : J pre w2 := HJ.out pre wr w2 none HG.out.j (grown_of_below hb2) (fun r e => by cases e)
      obtain ⟨fn, tmps, assign, body, hy, hR⟩ := HY.out pre (t, q') w2 hJ2 hst.out.2.2.1
      dsimp only at hy
      have hbox2 : w2.cell? ⟨Bn, 0, none⟩ = some (.string s) := (hb2.cell (p := ⟨Bn, 0, none⟩) HG.out.lt).trans hbox
      have HB2 := Lib.hid hbox2
      have hlt2 : Bn < w2.heap.size := Nat.lt_of_lt_of_le HG.out.lt hb2.size
      have hsz2 := Nat.le_trans HW.out hb2.size
      clear hbox2 hbox hJ2
      gi_wp2_with fail
      refine ⟨(fun h => by cases h), ?_⟩
      refine hR.mono ?_
      rintro e w3 (⟨rfl, hJ3, hk3⟩ | ⟨rfl, hJx3⟩)
      · have hk := HKp.out _ _ hk3
        have HG3 : Hid (Going s Bn J (pre ++ [(t, q')]) q' w3) := ⟨hst.out.2.2.2, hst.out.2.1, hJ3, (World.cell?_of_block (a := ⟨Bn, 0, none⟩) hk.2).trans HB2.out, Nat.lt_of_lt_of_le hlt2 hk.1⟩
        have HW3 : Hid (W.heap.size ≤ w3.heap.size) := Nat.le_trans hsz2 hk.1
        have hqq : (q : Int) < (q' : Int) ∧ (q' : Int) ≤ (s.size : Int) := by have := hst.out; omega
        clear hk hJ3 hk3 hsz2 hlt2 hy
        gi_wp2_with fail
        go_roundw
        case rel => exact ⟨q', pre ++ [(t, q')], rfl, HG3, HW3⟩
        case measure => simp [intOf]; omega
      · gi_wp2_with fail
        refine bodyPost_ret (results_none rfl _ _ _) rfl ?_
        exact ⟨⟨_, rfl⟩, .inr ⟨_, trivial, hJx3⟩⟩
    · have hst := Lib.hid (st.1 (by omega))
      clear st
      gi_wp2_with fail
      refine ⟨trivial, (fun h => by cases h), ?_⟩
      refine (callsIn_wide.2 HC.out).mono ?_
      rintro e w2 ⟨rfl, hb2⟩
      have hJ2 := Lib.hid (HJ.out pre wr w2 none HG.out.j (grown_of_below hb2) (fun r e => by cases e))
      gi_wp2_with fail
      refine ⟨(fun _ h => by cases h), ?_⟩
      gi_wp2_with fail
      refine bodyPost_ret (results_none rfl _ _ _) rfl ?_
      exact ⟨⟨_, rfl⟩, .inl ⟨pre, hst.out, hJ2.out⟩⟩
theorem frames_in (s : ByteArray) (n : Nat) (w : World) :
    CallsIn Fence.wide n Try.prog 25 #[.string s] w fun e w' => e = .returned (.func (.func 34) #[] #[.pointer (some ⟨w.heap.size, 0, none⟩)]) ∧ w' = w.alloc (.cells #[.string s] 9) := by
  refine callsIn_of_wp Try.func25 rfl trivial ?_ rfl
  simp only [Try.ntmps25, List.size_toArray, List.length_cons, List.length_nil, Nat.reduceAdd, Nat.reduceSub, Array.replicate_succ, Array.replicate_zero, List.push_toArray, List.append_toArray, List.nil_append, List.cons_append]
  gi_wp2
  go_ret
  exact ⟨rfl, rfl⟩

/-- What a round that goes on keeps. -/
def KpS (N Bn : Nat) (W W' : World) : Prop := Below N W W' ∧ W'.heap[Bn]? = W.heap[Bn]?
theorem frames_stops (s : ByteArray) (hs : s.size ≤ 4398046511104) (n N Bn : Nat) (w : World) (hBn : w.cell? ⟨Bn, 0, none⟩ = some (.string s)) (hlt : Bn < w.heap.size) :
    SeqStopsK Fence.wide n Try.prog 34 #[.pointer (some ⟨Bn, 0, none⟩)] (fun x : ByteArray × Nat => #[.string x.1, .int .i64 (x.2 : Nat)]) (KpS N Bn) (fun ys => ys = prs s (s.size + 1) 0) (fun _ => True) (prs s (s.size + 1) 0).length w := fun l J Jx W hW hJ _ hY h0 =>
  frames1_in s hs n l Bn J Jx (KpS N Bn) (fun _ _ h => ⟨h.1.size, h.2⟩) W hJ hY ((hW.cell (p := ⟨Bn, 0, none⟩) hlt).trans hBn) (Nat.lt_of_lt_of_le hlt hW.size) h0

/-- What Scan's boxes hold between two rounds. -/
def ScanSt (w : World) (pre : List (ByteArray × Nat)) (W : World) : Prop :=
  (∃ v, Boxed W w.heap.size 22 v ∧ W.ownsRow (w.heap.size + 3) 9 1 v pre.length (pre.map fun x => Value.string x.1)) ∧ Boxed W (w.heap.size + 1) 3 (.int .i64 (lastTo 0 pre)) ∧ Below w.heap.size w W ∧ w.heap.size + 3 ≤ W.heap.size
theorem scanSt_own (w : World) (B : Nat) (hB : w.heap.size ≤ B) : OwnFrom B (ScanSt w) := by
  rintro pre X Y row ⟨⟨v, hv, hr⟩, ha, hb, hs⟩ hg hrow
  have h1 : ∀ N t u, Boxed X N t u → some N ≠ row := by
    intro N t u h e
    obtain ⟨_, o, ho, hc⟩ := hrow N e.symm
    rw [show X.heap[N]? = _ from h] at ho; cases ho; cases hc
  refine ⟨⟨v, hv.kept hg (h1 _ _ _ hv), hr.kept hg ?_⟩, ha.kept hg (h1 _ _ _ ha), hb.grown hg hb.size (fun k e => Nat.le_trans hB (hrow k e).1), Nat.le_trans hs hg.size⟩
  rcases hr.2 with ⟨rfl, _⟩ | ⟨g, cap, cur, rfl, _, hgb, _⟩
  · exact .inl rfl
  · refine .inr fun e' => ?_
    obtain ⟨_, o, ho, hc⟩ := hrow g (by simpa [Value.ownBlock] using e'.symm)
    rw [hgb] at ho; cases ho; cases hc
theorem row_far {W : World} {base e size k : Nat} {v : Value} {xs : List Value} (h : W.ownsRow base e size v k xs) {B : Nat} (hB : B < base) : some B ≠ v.ownBlock := by
  rcases h.2 with ⟨rfl, _⟩ | ⟨g, cap, cur, rfl, hg, _, _⟩
  · simp [Value.ownBlock]
  · intro e
    have : B = g := by simpa [Value.ownBlock] using e
    omega
theorem box_other {W : World} {B B' : Nat} {t : TypeId} {v : Value} (h : Boxed W B t v) (hne : B ≠ B') (u : Value) : Boxed (W.setCell ⟨B', 0, none⟩ u) B t v := h.kept (grownBy_setCell' W B' u) (fun e => hne (by cases e; rfl))
theorem scan_step {w W w1 : World} {pre : List (ByteArray × Nat)} {x : ByteArray × Nat} {v v' : Value} {tmp : Obj} {B : Nat}
    (hv : Boxed W w.heap.size 22 v) (hrow : W.ownsRow (w.heap.size + 3) 9 1 v pre.length (pre.map fun x => Value.string x.1)) (ha : Boxed W (w.heap.size + 1) 3 (.int .i64 (lastTo 0 pre))) (hB : Below w.heap.size w W) (hsz : w.heap.size + 3 ≤ W.heap.size)
    (hown : w1.ownsRow (w.heap.size + 3) 9 1 v' (pre.length + 1) ((pre.map fun x => Value.string x.1) ++ [.string x.1])) (hgrow : (W.alloc tmp).grownBy w1 v.ownBlock) :
    Boxed w1 w.heap.size 22 v ∧ Boxed (w1.setCell ⟨w.heap.size, 0, none⟩ v') (w.heap.size + 1) 3 (.int .i64 (lastTo 0 pre)) ∧
      (KeepsFrom B W ((w1.setCell ⟨w.heap.size, 0, none⟩ v').setCell ⟨w.heap.size + 1, 0, none⟩ (.int .i64 (x.2 : Nat))) ∧
      KpS w.heap.size (w.heap.size + 2) W ((w1.setCell ⟨w.heap.size, 0, none⟩ v').setCell ⟨w.heap.size + 1, 0, none⟩ (.int .i64 (x.2 : Nat))) ∧
      ScanSt w (pre ++ [x]) ((w1.setCell ⟨w.heap.size, 0, none⟩ v').setCell ⟨w.heap.size + 1, 0, none⟩ (.int .i64 (x.2 : Nat)))) := by
  have hv1 : Boxed w1 w.heap.size 22 v := (hv.alloc tmp).kept hgrow (row_far hrow (by omega))
  have ha1 : Boxed w1 (w.heap.size + 1) 3 (.int .i64 (lastTo 0 pre)) := (ha.alloc tmp).kept hgrow (row_far hrow (by omega))
  have ha2 := box_other (B' := w.heap.size) ha1 (by omega) v'
  have hb1 : Below w.heap.size W ((w1.setCell ⟨w.heap.size, 0, none⟩ v').setCell ⟨w.heap.size + 1, 0, none⟩ (.int .i64 (x.2 : Nat))) := by
    refine ((((Below.refl w.heap.size W).alloc (by omega) tmp).grown hgrow (by simp; omega) fun j ej => ?_).setCell (p := ⟨w.heap.size, 0, none⟩) (Nat.le_refl _) v').setCell (p := ⟨w.heap.size + 1, 0, none⟩) (by simp) _
    have := row_far (B := j) hrow
    rcases Nat.lt_or_ge j w.heap.size with h | h
    · exact absurd ej.symm (this (by omega))
    · exact h
  refine ⟨hv1, ha2, ?_, ⟨hb1, ?_⟩, ⟨⟨v', box_other (hv1.set v') (by omega) _, ?_⟩, ?_, hB.trans hb1, ?_⟩⟩
  · refine KeepsOthers.from (((KeepsOthers.alloc W tmp).trans (KeepsOthers.of_grownBy hgrow fun j o ej hj => ?_)).trans ((KeepsOthers.setCell _ _ _).trans (KeepsOthers.setCell _ _ _))) _
    rcases (hrow.alloc tmp).2 with ⟨rfl, _⟩ | ⟨g, cap, cur, rfl, _, hgb, _⟩
    · simp [Value.ownBlock] at ej
    · obtain rfl : g = j := by simpa [Value.ownBlock] using ej
      rw [hgb] at hj; cases hj; rfl
  · have e1 := (grownBy_setCell' (w1.setCell ⟨w.heap.size, 0, none⟩ v') (w.heap.size + 1) (.int .i64 (x.2 : Nat))).block (w.heap.size + 2) (by have := hgrow.size; simp at this ⊢; omega) (by simp)
    have e2 := (grownBy_setCell' w1 w.heap.size v').block (w.heap.size + 2) (by have := hgrow.size; simp at this ⊢; omega) (by simp)
    have e3 := hgrow.block (w.heap.size + 2) (by simp; omega) (row_far hrow (by omega))
    have e4 := Below.heap_alloc W tmp (w.heap.size + 2) (by omega)
    exact e1.trans (e2.trans (e3.trans e4))
  · have h1 := hown.kept (grownBy_setCell' w1 w.heap.size v') (.inr (row_far hown (by omega)).symm)
    have h2 := h1.kept (grownBy_setCell' _ (w.heap.size + 1) (.int .i64 (x.2 : Nat))) (.inr (row_far h1 (by omega)).symm)
    simpa using h2
  · rw [lastTo_snoc]; exact ha2.set _
  · have := hgrow.size; simp at this ⊢; omega

set_option maxRecDepth 100000 in
set_option maxHeartbeats 2000000 in
theorem scan_in (s : ByteArray) (hs : s.size ≤ 4398046511104) (w : World) :
    CallsIn Fence.wide 5 Try.prog 15 #[.string s] w (ScanOut w (Frm.scB s)) := by
  have hfew := prs_few s
  have hfit := prs_fit s
  have hR := prs_scB s
  obtain ⟨i0, hi, hz0, hz1, hz2⟩ := info_parts infoStr
  have HST := Lib.hid (fun (Bn : Nat) w' h1 h2 => frames_stops s hs 4 w.heap.size Bn w' h1 h2)
  have HR := Lib.hid hR
  have HFIT := Lib.hid hfit
  have hfew2 : (prs s (s.size + 1) 0).length * 16 ≤ 140737488351232 := by omega
  clear hs hR hfit hfew
  refine callsIn_of_wp_marks Try.func15 rfl trivial ?_ rfl
  simp only [Try.ntmps15, List.size_toArray, List.length_cons, List.length_nil, Nat.reduceAdd, Nat.reduceSub, Array.replicate_succ, Array.replicate_zero, List.push_toArray, List.append_toArray, List.nil_append, List.cons_append]
  gi_wp2_with fail
  refine ⟨trivial, ?_⟩
  refine (frames_in s _ _).mono ?_
  rintro e w' ⟨rfl, rfl⟩
  have bO := ((Boxed.new w 22 (.slice none 0 0)).alloc (.cells #[.int .i64 0] 3)).alloc (.cells #[.string s] 9)
  have bA := (Boxed.new (w.alloc (.cells #[.slice none 0 0] 22)) 3 (.int .i64 0)).alloc (.cells #[.string s] 9)
  have bS := Boxed.new ((w.alloc (.cells #[.slice none 0 0] 22)).alloc (.cells #[.int .i64 0] 3)) 9 (.string s)
  have hB0 : Below w.heap.size w (((w.alloc (.cells #[.slice none 0 0] 22)).alloc (.cells #[.int .i64 0] 3)).alloc (.cells #[.string s] 9)) := (((Below.refl _ w).alloc (Nat.le_refl _) _).alloc (by simp) _).alloc (by simp; omega) _
  gi_wp2_with fail
  refine wpIn_rangeFunc_ownG (F := Fence.wide) rfl (by omega) (gf := 34) (lb := #[.pointer (some ⟨w.heap.size + 1 + 1, 0, none⟩)]) rfl trivial (enters_of Try.func34 (by kernel_rfl) rfl)
    (HST.out (w.heap.size + 2) _ (by simpa using bS.cell) (by simp)) (fun h k => ⟨h.1.trans k.1, k.2.trans h.2⟩) (fun W l o o' hl h1 h2 h3 => ⟨belowK_b (w := w) (Nat.le_refl _) W l o o' (by simp at hl; omega) h1 h2 h3, World.putObj_heap_other (by simp at hl; omega)⟩) (Below.refl _ _) (fun _ => rfl)
    (ScanSt w) (fun _ _ _ => False)
    (scanSt_own w _ (by simp; omega))
    (fun _ _ _ _ _ hs _ _ => hs)
    ⟨⟨_, bO, World.ownsRow_nil _ _ _ _⟩, by simpa [lastTo] using bA, hB0, by simp⟩
    (fun x => { tmps := #[.string s, undef, .slice none 0 0, .int .i64 0, .pointer (some ⟨w.heap.size, 0, none⟩), .pointer (some ⟨w.heap.size + 1, 0, none⟩), .string x.1, .int .i64 (x.2 : Nat), .string s, .func (.func 34) #[] #[.pointer (some ⟨w.heap.size + 1 + 1, 0, none⟩)], .string x.1, .int .i64 (x.2 : Nat), undef, undef, undef, undef, undef, undef, undef], defers := [] }) ?assign ?body ?done ?stop
  case assign =>
    intro l x W K hK
    gi_wp2
    exact hK
  case body =>
    rintro l pre x W ⟨⟨v, hv, hrow⟩, ha, hB, hsz⟩ hlt
    have hc := hv.cell
    gi_wp2_with (gi_at_builtin; refine wpListIn_append_own _ rfl _ _ 22 rfl (w.heap.size + 3) 9 i0 (.string ByteArray.empty) 1 16 Try.underlying22 hi hz0 hz1 hz2 rfl (by decide) _ _ _ rfl (hrow.alloc _) ⟨W.heap.size, 0, none⟩ 1 1 [.string x.1] rfl rfl (cell_one_new _ _ _) (by simp [Value.oneCell']) (by unfold maxLen; omega) (by omega) (by simp; omega) ?_; intro v' w1 hown' hgrow _; obtain ⟨g', cap', rfl⟩ := ownsRow_succ hown'; obtain ⟨hv1, ha1, hfin⟩ := scan_step (B := w.heap.size + 3) hv hrow ha hB hsz hown' hgrow; have hc1 := hv1.cell; have hf1 := hv1.frozen; have hc2 := ha1.cell; have hf2 := ha1.frozen; have HF := Lib.hid hfin; clear hfin hc)
    exact ⟨by simpa using HF.out.1, HF.out.2.1, HF.out.2.2⟩
  case done =>
    rintro D ys W hD rfl ⟨⟨v, hv, hrow⟩, ha, hB, hsz⟩ hK
    have hc := hv.cell
    have hc2 := ha.cell
    gi_wp2
    gi_region
    all_goals
      gi_wp2
      have hK' : W.drew.heap[D]? = some (.deferred (some [])) := hK
      refine ⟨by simp, .inl ⟨_, _, rfl, run_takeDeferred hK', ?_⟩⟩
      refine ⟨_, results_tmp2 rfl _ _ _, ?_⟩
      rw [HR.out]
      have hr2 : W.drew.ownsRow (w.heap.size + 3) 9 1 v (prs s (s.size + 1) 0).length ((prs s (s.size + 1) 0).map fun x => Value.string x.1) := hrow.drew
      have hr3 := ownsRow_putObj hr2 (.deferred none) hK' rfl
      have hr4 : (W.drew.putObj D (.deferred none)).ownsRow (w.heap.size + 3) 9 1 v ((prs s (s.size + 1) 0).map (·.1)).length (((prs s (s.size + 1) 0).map (·.1)).map Value.string) := by simpa [List.map_map, Function.comp_def] using hr3
      obtain ⟨ao, cap, rfl, h1, h2⟩ := strs_of_owns hr4 (fun t ht => by have := HFIT.out t ht; unfold maxLen; omega)
      exact ⟨ao, cap, rfl, h1, h2, hB.drew.trans (belowK_b (w := w) (Nat.le_refl _) W.drew D _ _ (by simp at hD; omega) hK' rfl rfl)⟩
  case stop =>
    rintro D c pre W _ _ h _
    exact h.elim
theorem scan_any (s : ByteArray) (w : World) (hs : s.size ≤ 4398046511104) :
    Calls Try.prog 15 #[.string s] w (ScanOut w (Frm.scB s)) := callsIn_wide.1 (scan_in s hs w)
end Go.Proofs.Ytbhadaiijcdlkaa
