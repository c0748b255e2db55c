/- The walks over feed's list.push and list.next. -/
import Derived.Test.YtbajgpbekanodaaFeedMem
import Derived.Test.YtbajgpbekanodaaRegionP
import Derived.Deep.RegionHeld3
import Derived.Deep.AppendLies
namespace Go.Proofs.Ytbajgpbekanodaa
open Go.RowKit

/-- All blocks but some are as they were. -/
structure Turned (S : Nat → Prop) (w w' : World) : Prop where
  os : w'.os = w.os
  tape : w'.tape = w.tape
  output : w'.output = w.output
  size : w.heap.size ≤ w'.heap.size
  block : ∀ k, k < w.heap.size → ¬ S k → w'.heap[k]? = w.heap[k]?
theorem Turned.refl (S : Nat → Prop) (w : World) : Turned S w w := ⟨rfl, rfl, rfl, Nat.le_refl _, fun _ _ _ => rfl⟩
theorem Turned.trans {S : Nat → Prop} {a b c : World} (h : Turned S a b) (k : Turned S b c) : Turned S a c :=
  ⟨k.os.trans h.os, k.tape.trans h.tape, k.output.trans h.output, Nat.le_trans h.size k.size, fun i hi hs => (k.block i (Nat.lt_of_lt_of_le hi h.size) hs).trans (h.block i hi hs)⟩
theorem Turned.of_below {S : Nat → Prop} {a b : World} (h : Below a.heap.size a b) : Turned S a b := ⟨h.os, h.tape, h.output, h.size, fun k hk _ => h.block k hk⟩
theorem infoEnt : (Try.prog.info? 82).map (fun i => (i.zero, i.size, i.bytes)) = some (some (.agg #[.int .i64 0, .string ByteArray.empty, .string ByteArray.empty]), 3, 40) := by kernel_rfl
theorem info_partsA {i : Option TypeInfo} {z : Value} {n b : Nat} (h : i.map (fun i => (i.zero, i.size, i.bytes)) = some (some z, n, b)) : ∃ i0, i = some i0 ∧ i0.zero = some z ∧ i0.size = n ∧ i0.bytes = b := by
  cases i with
  | none => cases h
  | some i0 =>
    simp at h
    exact ⟨i0, rfl, h.1, h.2.1, h.2.2⟩

/-- Where a row lies that was appended to. -/
def NewRow (v x : Value) (w : World) : Prop := ∀ k, x.ownBlock = some k → v.ownBlock = some k ∨ w.heap.size ≤ k
def PushW (X p B : Nat) (sq : Int) (pv bd d h0 : ByteArray) (t : TypeId) (v : Value) (n : Nat) (es : List Value) (w0 : World) (ph : Nat) (x y : Value) (w' : World) : Prop :=
  (EntAt w' X 0 ⟨sq, pv, bd⟩ ∧ Turned (fun k => k = p ∨ v.ownBlock = some k) w0 w') ∧
  match ph with
  | 0 => w'.heap[p]? = some (.cells #[v, .string h0] t (0, 0)) ∧ w'.ownsRow B 82 3 v n es
  | 1 => w'.heap[p]? = some (.cells #[v, .string h0] t (0, 0)) ∧ w'.ownsRow B 82 3 v n es ∧ ∃ q, y = .slice (some ⟨q, 0, none⟩) 1 1 ∧ ∀ j u, [Value.int .i64 sq, .string pv, .string bd][j]? = some u → w'.cell? ((⟨q, 0, none⟩ : Addr).add j) = some u
  | 2 => w'.heap[p]? = some (.cells #[v, .string h0] t (0, 0)) ∧ w'.ownsRow B 82 3 x (n + 1) (es ++ [Value.int .i64 sq, .string pv, .string bd]) ∧ x.ownBlock ≠ some p ∧ NewRow v x w0
  | 3 => w'.heap[p]? = some (.cells #[x, .string h0] t (0, 0)) ∧ w'.ownsRow B 82 3 x (n + 1) (es ++ [Value.int .i64 sq, .string pv, .string bd]) ∧ x.ownBlock ≠ some p ∧ NewRow v x w0
  | _ => w'.heap[p]? = some (.cells #[x, .string d] t (0, 0)) ∧ w'.ownsRow B 82 3 x (n + 1) (es ++ [Value.int .i64 sq, .string pv, .string bd]) ∧ x.ownBlock ≠ some p ∧ NewRow v x w0
theorem news_kept {w w' : World} {q j : Nat} {u : Value} (hb : Below w.heap.size w w') (h : w.cell? ((⟨q, 0, none⟩ : Addr).add j) = some u) : w'.cell? ((⟨q, 0, none⟩ : Addr).add j) = some u := by
  rw [Go.WideShapes.add_plain] at *
  exact (hb.cell (World.block_lt_of_cell? _ _ h)).trans h
theorem pushW_below {X p B : Nat} {sq : Int} {pv bd d h0 : ByteArray} {t : TypeId} {v : Value} {n : Nat} {es : List Value} {w0 : World} {ph : Nat} {x y : Value} {w w' : World} (h : PushW X p B sq pv bd d h0 t v n es w0 ph x y w) (hb : Below w.heap.size w w') : PushW X p B sq pv bd d h0 t v n es w0 ph x y w' := by
  obtain ⟨⟨hE, hT⟩, h⟩ := h
  have hb' : ∀ {o : Obj}, w.heap[p]? = some o → w'.heap[p]? = some o := fun hp => (hb.block p (Array.getElem?_eq_some_iff.1 hp).1).trans hp
  refine ⟨⟨hE.kept hb (World.block_lt_of_cell? _ _ hE.1), hT.trans (Turned.of_below hb)⟩, ?_⟩
  match ph, h with
  | 0, h => exact ⟨hb' h.1, owns_kept h.2 hb (Nat.le_refl _)⟩
  | 1, ⟨h1, h2, q, h3, h4⟩ => exact ⟨hb' h1, owns_kept h2 hb (Nat.le_refl _), q, h3, fun j u hj => news_kept hb (h4 j u hj)⟩
  | 2, ⟨h1, h2, h3⟩ => exact ⟨hb' h1, owns_kept h2 hb (Nat.le_refl _), h3⟩
  | 3, ⟨h1, h2, h3⟩ => exact ⟨hb' h1, owns_kept h2 hb (Nat.le_refl _), h3⟩
  | _ + 4, ⟨h1, h2, h3⟩ => exact ⟨hb' h1, owns_kept h2 hb (Nat.le_refl _), h3⟩
theorem pushW_early {X p B : Nat} {sq : Int} {pv bd d h0 : ByteArray} {t : TypeId} {v : Value} {n : Nat} {es : List Value} {w0 : World} {ph : Nat} {x y : Value} {w : World} (h : PushW X p B sq pv bd d h0 t v n es w0 ph x y w) (hp : ph ≤ 1) : w.heap[p]? = some (.cells #[v, .string h0] t (0, 0)) := by
  rcases ph with _ | _ | ph
  · exact h.2.1
  · exact h.2.1
  · omega
theorem dep_val {i : Nat} {v : Value} {l : List Value} (h : i = 7 ∨ i = 8 ∨ v = l.getD i undef) (h7 : decide (i = 7) = false) (h8 : decide (i = 8) = false) : v = l.getD i undef := by
  rcases h with h | h | h
  · exact absurd h (of_decide_eq_false h7)
  · exact absurd h (of_decide_eq_false h8)
  · exact h
theorem body_end0 {P : Program} {fn : Func} {R : Ending → World → Prop} {a : Act} {w : World} (hr : fn.results = #[]) (hd : a.defers = []) (hR : R (.returned (.tuple #[])) w) : bodyPost P fn R .normal a w :=
  ⟨hd, .tuple #[], by simp [results, hr], hR⟩
theorem wp_skip {P : Program} {o : Oper} {a : Act} {w w' : World} {K : Act → World → Prop} {Q : Exit → Act → World → Prop} (hd : o.dst = none) (hrun : (execOp a.eval o).run P w = .ok .skip w') (h : K (a.put o.dst undef) w') : o.wp P a w K Q := by
  unfold Oper.wp
  rw [hrun]
  rw [hd] at h
  unfold Oper.upon
  simpa [hd, Act.put] using h
theorem grownBy_set (W : World) (p o : Nat) (v : Value) : W.grownBy (W.setCell ⟨p, o, none⟩ v) (some p) :=
  ⟨rfl, rfl, rfl, by simp [World.setCell], fun _ _ hk => Below.heap_setCell _ _ _ _ (fun e => hk (by simp [e]))⟩

set_option maxRecDepth 100000 in
set_option maxHeartbeats 4000000 in
theorem push_raw (pv bd d h0 : ByteArray) (sq : Int) (p B : Nat) (t : TypeId) (v : Value) (n : Nat) (es : List Value) (w : World) (hp : w.heap[p]? = some (.cells #[v, .string h0] t (0, 0))) (hB : B ≤ p) (hown : w.ownsRow B 82 3 v n es) (hne : v.ownBlock ≠ some p) (hn : n ≤ 1000000)
    (CH : Hid (∀ w, Calls Try.prog 49 #[.agg #[.int .i64 sq, .string pv, .string bd]] w fun r w' => r = .returned (.string d) ∧ Below w.heap.size w w')) :
    Calls Try.prog 69 #[.pointer (some ⟨p, 0, none⟩), .agg #[.int .i64 sq, .string pv, .string bd]] w fun r w' => r = .returned (.tuple #[]) ∧ ∃ v', w'.heap[p]? = some (.cells #[v', .string d] t (0, 0)) ∧
      w'.ownsRow B 82 3 v' (n + 1) (es ++ [Value.int .i64 sq, .string pv, .string bd]) ∧ v'.ownBlock ≠ some p ∧ NewRow v v' w ∧ Turned (fun k => k = p ∨ v.ownBlock = some k) w w' := by
  obtain ⟨i0, hi, hz0, hz1, hz2⟩ := info_partsA infoEnt
  have hpl : p < w.heap.size := (Array.getElem?_eq_some_iff.1 hp).1
  have hvl : ∀ g, v.ownBlock = some g → g < w.heap.size := fun g hg => (hown.lt g hg).2
  obtain ⟨ao, cp, rfl, hncp, hcpm⟩ : ∃ ao cp, v = .slice ao n cp ∧ n ≤ cp ∧ cp ≤ maxLen := by
    rcases hown.2 with ⟨h, h0⟩ | ⟨g, cap, cur, h, _, _, h1, h2, _⟩
    · exact ⟨none, 0, by rw [h, h0], by omega, by simp [maxLen]⟩
    · exact ⟨_, cap, h, h1, h2⟩
  go_enter Try.func69, Try.ntmps69
  go_upto_region 1 with fail
  have hW0 : ∀ x y, PushW w.heap.size p B sq pv bd d h0 t (.slice ao n cp) n es w 0 x y ((w.alloc (.cells #[.int .i64 sq, .string pv, .string bd] 82)).drew) := fun x y =>
    ⟨⟨⟨cells_new w [.int .i64 sq, .string pv, .string bd] _ 0 _ rfl, cells_new w [.int .i64 sq, .string pv, .string bd] _ 1 _ rfl, cells_new w [.int .i64 sq, .string pv, .string bd] _ 2 _ rfl⟩,
      Turned.of_below (((Below.refl w.heap.size w).alloc (Nat.le_refl _) _).drew)⟩, (((Below.refl w.heap.size w).alloc (Nat.le_refl _) _).block p hpl).trans hp, hown.alloc _⟩
  have HVL : Hid (∀ g, (Value.slice ao n cp).ownBlock = some g → g < w.heap.size) := hvl
  clear hown hp hvl
  generalize hX : w.heap.size = X at *
  refine wp_region_phase [7, 8, 13, 16] 12 11 (R := fun qi v => qi = 7 ∨ qi = 8 ∨ v = [Value.pointer (some ⟨p, 0, none⟩), .pointer (some ⟨p, 0, none⟩), .pointer (some ⟨p, 0, none⟩), .pointer (some ⟨p, 0, none⟩), .pointer (some ⟨p, 0, none⟩), .slice ao n cp, .agg #[.int .i64 sq, .string pv, .string bd], undef, undef, .agg #[.int .i64 sq, .string pv, .string bd], .string d, .pointer (some ⟨p, 0, none⟩), .pointer (some ⟨p, 0, none⟩), undef, .pointer (some ⟨p, 0, none⟩), .pointer (some ⟨p, 1, none⟩), undef].getD qi undef) (W := PushW X p B sq pv bd d h0 t (.slice ao n cp) n es w)
    (by kernel_rfl) (by kernel_rfl) (by kernel_rfl) (by kernel_rfl) (by kernel_rfl) (hW0 _ _) (steps_of ⟨?_, ?_, ?_, ?_, ?_, ?_, ?_, ?_, ?_, ?_, ?_, ?_, ?_, ?_, ?_, ?_, ?_, trivial⟩) ?_
  · intro ph a w1 hpo hsp ht hW
    have e0 : a.tmps[0]?.getD undef = .pointer (some ⟨p, 0, none⟩) := ht.old 0 (.pointer (some ⟨p, 0, none⟩)) (by kernel_rfl) rfl
    refine wp_value (v := .pointer (some ⟨p, 0, none⟩)) (w' := w1) (by go_simp) ⟨_, rfl, fun _ _ => Or.inr (Or.inr rfl), ?_⟩
    rw [put_keeps _ _ _ 12 (by decide), put_keeps _ _ _ 11 (by decide)]
    exact hW
  · intro ph a w1 hpo hsp ht hW
    have e0 : a.tmps[0]?.getD undef = .pointer (some ⟨p, 0, none⟩) := ht.old 0 (.pointer (some ⟨p, 0, none⟩)) (by kernel_rfl) rfl
    refine wp_value (v := .pointer (some ⟨p, 0, none⟩)) (w' := w1) (by go_simp) ⟨_, rfl, fun _ _ => Or.inr (Or.inr rfl), ?_⟩
    rw [put_keeps _ _ _ 12 (by decide), put_keeps _ _ _ 11 (by decide)]
    exact hW
  · intro ph a w1 hpo hsp ht hW
    have e0 : a.tmps[0]?.getD undef = .pointer (some ⟨p, 0, none⟩) := ht.old 0 (.pointer (some ⟨p, 0, none⟩)) (by kernel_rfl) rfl
    refine wp_value (v := .pointer (some ⟨p, 0, none⟩)) (w' := w1) (by go_simp) ⟨_, rfl, fun _ _ => Or.inr (Or.inr rfl), ?_⟩
    rw [put_keeps _ _ _ 12 (by decide), put_keeps _ _ _ 11 (by decide)]
    exact hW
  · intro ph a w1 hpo hsp ht hW
    have e6 : a.tmps[6]?.getD undef = .pointer (some ⟨p, 0, none⟩) := dep_val (ht.dep 2 6 (by kernel_rfl) rfl) (by decide) (by decide)
    refine wp_value (v := .pointer (some ⟨p, 0, none⟩)) (w' := w1) (by go_simp) ⟨_, rfl, fun _ _ => Or.inr (Or.inr rfl), ?_⟩
    rw [put_keeps _ _ _ 12 (by decide), put_keeps _ _ _ 11 (by decide)]
    exact hW
  · intro ph a w1 hpo hsp ht hW
    have e7 : a.tmps[7]?.getD undef = .pointer (some ⟨p, 0, none⟩) := dep_val (ht.dep 3 7 (by kernel_rfl) rfl) (by decide) (by decide)
    refine wp_value (v := .pointer (some ⟨p, 0, none⟩)) (w' := w1) (by go_simp) ⟨_, rfl, fun _ _ => Or.inr (Or.inr rfl), ?_⟩
    rw [put_keeps _ _ _ 12 (by decide), put_keeps _ _ _ 11 (by decide)]
    exact hW
  · intro ph a w1 hpo hsp ht hW
    have e8 : a.tmps[8]?.getD undef = .pointer (some ⟨p, 0, none⟩) := dep_val (ht.dep 4 8 (by kernel_rfl) rfl) (by decide) (by decide)
    have hp5 := pushW_early hW (phase_le hpo 1 rfl (by kernel_rfl))
    have hc0 : w1.cell? ⟨p, 0, none⟩ = some (.slice ao n cp) := by simp [World.cell?, hp5]
    refine wp_value (v := .slice ao n cp) (w' := w1) (by go_simp) ⟨_, rfl, fun _ _ => Or.inr (Or.inr rfl), ?_⟩
    rw [put_keeps _ _ _ 12 (by decide), put_keeps _ _ _ 11 (by decide)]
    exact hW
  · intro ph a w1 hpo hsp ht hW
    have e3 : a.tmps[3]?.getD undef = .pointer (some ⟨X, 0, none⟩) := ht.old 3 (.pointer (some ⟨X, 0, none⟩)) (by kernel_rfl) rfl
    obtain ⟨hx0, hx1, hx2⟩ := hW.1.1
    simp only at hx0 hx1 hx2
    refine wp_value (v := .agg #[.int .i64 sq, .string pv, .string bd]) (w' := w1) (by go_simp) ⟨_, rfl, fun _ _ => Or.inr (Or.inr rfl), ?_⟩
    rw [put_keeps _ _ _ 12 (by decide), put_keeps _ _ _ 11 (by decide)]
    exact hW
  · intro ph a w1 hpo hsp ht hW
    have e10 : a.tmps[10]?.getD undef = .agg #[.int .i64 sq, .string pv, .string bd] := dep_val (ht.dep 6 10 (by kernel_rfl) rfl) (by decide) (by decide)
    obtain rfl : ph = 0 := by have h := hsp rfl; rcases ph with _ | _ | _ | _ | ph <;> simp_all
    refine wp_value (v := .slice (some ⟨w1.heap.size, 0, none⟩) 1 1) (w' := w1.alloc (.cells #[.int .i64 sq, .string pv, .string bd] 82)) (by go_simp) ⟨_, rfl, fun _ _ => Or.inl rfl, ?_⟩
    have h1 := pushW_below hW ((Below.refl _ w1).alloc (Nat.le_refl _) (.cells #[.int .i64 sq, .string pv, .string bd] 82))
    refine ⟨h1.1, h1.2.1, h1.2.2, w1.heap.size, ?_, cells_new w1 [.int .i64 sq, .string pv, .string bd] _⟩
    exact getD_put_same a 11 _ (by rw [ht.size]; exact Nat.le_of_ble_eq_true rfl)
  · intro ph a w1 hpo hsp ht hW
    obtain rfl : ph = 1 := by have h := hsp rfl; rcases ph with _ | _ | _ | _ | ph <;> simp_all
    have e9 : a.tmps[9]?.getD undef = .slice ao n cp := dep_val (ht.dep 5 9 (by kernel_rfl) rfl) (by decide) (by decide)
    obtain ⟨⟨hE, hT⟩, hp1, hown1, q, hy, hnews⟩ := hW
    refine wp_append_lies w1 _ _ _ rfl B 82 i0 _ 3 40 Try.underlying49 hi hz0 hz1 hz2 rfl (by omega) (.slice ao n cp) n es (by rw [getD_spelt]; exact e9) hown1 ⟨q, 0, none⟩ 1 1 [.int .i64 sq, .string pv, .string bd] hy rfl hnews (by intro u hu; simp at hu; rcases hu with rfl | rfl | rfl <;> rfl) (by omega) (by unfold maxLen; omega) (by omega) (by have := hT.size; omega) w1.heap.size rfl ?_
    intro gg cap w2 hown2 hgrow hat hlt2
    refine ⟨_, rfl, fun _ _ => Or.inr (Or.inl rfl), ?_⟩
    have hX1 : X < w1.heap.size := World.block_lt_of_cell? _ _ hE.1
    have hr : some X ≠ (Value.slice ao n cp).ownBlock := fun h => by have := HVL.out X h.symm; omega
    have hr2 : some p ≠ (Value.slice ao n cp).ownBlock := fun h => hne h.symm
    have hpl1 : p < w1.heap.size := (Array.getElem?_eq_some_iff.1 hp1).1
    have kp := (hgrow.block p hpl1 hr2).trans hp1
    have ex : ((a.put (some 12) (.slice (some ⟨gg, 0, none⟩) (n + 1) cap)).tmps.getD 12 undef) = .slice (some ⟨gg, 0, none⟩) (n + 1) cap := getD_put_same a 12 _ (by rw [ht.size]; exact Nat.le_of_ble_eq_true rfl)
    refine ⟨⟨⟨hgrow.cell hE.1 hr, hgrow.cell hE.2.1 hr, hgrow.cell hE.2.2 hr⟩, hT.trans ⟨hgrow.os, hgrow.tape, hgrow.output, hgrow.size, fun k hk hs => hgrow.block k hk (fun h => hs (Or.inr h.symm))⟩⟩, kp, ?_⟩
    rw [ex]
    refine ⟨hown2, fun h => ?_, fun k hk => ?_⟩
    rotate_left
    · have hgk : gg = k := by simpa [Value.ownBlock] using hk
      rcases hat with h2 | h2
      · exact Or.inl (by rw [h2, hgk])
      · right; have := hT.size; omega
    have hgp : gg = p := by simpa [Value.ownBlock] using h
    rcases hat with h2 | h2
    · exact hne (by rw [h2, hgp])
    · omega
  · intro ph a w1 hpo hsp ht hW
    have e3 : a.tmps[3]?.getD undef = .pointer (some ⟨X, 0, none⟩) := ht.old 3 (.pointer (some ⟨X, 0, none⟩)) (by kernel_rfl) rfl
    obtain ⟨hx0, hx1, hx2⟩ := hW.1.1
    simp only at hx0 hx1 hx2
    refine wp_value (v := .agg #[.int .i64 sq, .string pv, .string bd]) (w' := w1) (by go_simp) ⟨_, rfl, fun _ _ => Or.inr (Or.inr rfl), ?_⟩
    rw [put_keeps _ _ _ 12 (by decide), put_keeps _ _ _ 11 (by decide)]
    exact hW
  · intro ph a w1 hpo hsp ht hW
    have e13 : a.tmps[13]?.getD undef = .agg #[.int .i64 sq, .string pv, .string bd] := dep_val (ht.dep 9 13 (by kernel_rfl) rfl) (by decide) (by decide)
    refine wp_calls (f := 49) (args := #[.agg #[.int .i64 sq, .string pv, .string bd]]) (by go_simp) ((CH.out w1).mono ?_)
    rintro e w2 ⟨rfl, hb⟩
    refine ⟨_, rfl, _, rfl, fun _ _ => Or.inr (Or.inr rfl), ?_⟩
    rw [put_keeps _ _ _ 12 (by decide), put_keeps _ _ _ 11 (by decide)]
    exact pushW_below hW hb
  · intro ph a w1 hpo hsp ht hW
    have e4 : a.tmps[4]?.getD undef = .pointer (some ⟨p, 0, none⟩) := dep_val (ht.dep 0 4 (by kernel_rfl) rfl) (by decide) (by decide)
    refine wp_value (v := .pointer (some ⟨p, 0, none⟩)) (w' := w1) (by go_simp) ⟨_, rfl, fun _ _ => Or.inr (Or.inr rfl), ?_⟩
    rw [put_keeps _ _ _ 12 (by decide), put_keeps _ _ _ 11 (by decide)]
    exact hW
  · intro ph a w1 hpo hsp ht hW
    have e15 : a.tmps[15]?.getD undef = .pointer (some ⟨p, 0, none⟩) := dep_val (ht.dep 11 15 (by kernel_rfl) rfl) (by decide) (by decide)
    refine wp_value (v := .pointer (some ⟨p, 0, none⟩)) (w' := w1) (by go_simp) ⟨_, rfl, fun _ _ => Or.inr (Or.inr rfl), ?_⟩
    rw [put_keeps _ _ _ 12 (by decide), put_keeps _ _ _ 11 (by decide)]
    exact hW
  · intro ph a w1 hpo hsp ht hW
    obtain rfl : ph = 2 := by have h := hsp rfl; rcases ph with _ | _ | _ | _ | ph <;> simp_all
    have e16 : a.tmps[16]?.getD undef = .pointer (some ⟨p, 0, none⟩) := dep_val (ht.dep 12 16 (by kernel_rfl) rfl) (by decide) (by decide)
    obtain ⟨⟨hE, hT⟩, hp1, hown1, hne1, hnr1⟩ := hW
    obtain ⟨g, cg, hx, _, _⟩ := hown1.form (by omega)
    have e12 : a.tmps[12]?.getD undef = .slice (some ⟨g, 0, none⟩) (n + 1) cg := by rw [← getD_spelt]; exact hx
    have hc : w1.cell? ⟨p, 0, none⟩ = some (.slice ao n cp) := by simp [World.cell?, hp1]
    have hf : w1.frozen? ⟨p, 0, none⟩ = false := by simp [World.frozen?, hp1]
    refine wp_skip rfl (w' := w1.setCell ⟨p, 0, none⟩ (.slice (some ⟨g, 0, none⟩) (n + 1) cg)) (by go_simp) ⟨undef, rfl, fun d hd => (by cases hd), ?_⟩
    have hX1 : X < w1.heap.size := World.block_lt_of_cell? _ _ hE.1
    have hg : w1.grownBy (w1.setCell ⟨p, 0, none⟩ (.slice (some ⟨g, 0, none⟩) (n + 1) cg)) (some p) := grownBy_set w1 p 0 _
    have hrX : some X ≠ some p := fun h => by cases h; omega
    exact ⟨⟨⟨hg.cell hE.1 hrX, hg.cell hE.2.1 hrX, hg.cell hE.2.2 hrX⟩, hT.trans ⟨hg.os, hg.tape, hg.output, hg.size, fun k hk hs => hg.block k hk (fun h => hs (Or.inl (by cases h; rfl)))⟩⟩, by rw [heap_setCell_same w1 p 0 _ _ _ hp1]; show _ = some (Obj.cells #[a.tmps.getD 12 undef, _] _ _); rw [hx]; rfl, hown1.kept hg (Or.inr hne1), hne1, hnr1⟩
  · intro ph a w1 hpo hsp ht hW
    have e5 : a.tmps[5]?.getD undef = .pointer (some ⟨p, 0, none⟩) := dep_val (ht.dep 1 5 (by kernel_rfl) rfl) (by decide) (by decide)
    refine wp_value (v := .pointer (some ⟨p, 0, none⟩)) (w' := w1) (by go_simp) ⟨_, rfl, fun _ _ => Or.inr (Or.inr rfl), ?_⟩
    rw [put_keeps _ _ _ 12 (by decide), put_keeps _ _ _ 11 (by decide)]
    exact hW
  · intro ph a w1 hpo hsp ht hW
    have e17 : a.tmps[17]?.getD undef = .pointer (some ⟨p, 0, none⟩) := dep_val (ht.dep 14 17 (by kernel_rfl) rfl) (by decide) (by decide)
    refine wp_value (v := .pointer (some ⟨p, 1, none⟩)) (w' := w1) (by go_simp) ⟨_, rfl, fun _ _ => Or.inr (Or.inr rfl), ?_⟩
    rw [put_keeps _ _ _ 12 (by decide), put_keeps _ _ _ 11 (by decide)]
    exact hW
  · intro ph a w1 hpo hsp ht hW
    obtain rfl : ph = 3 := by have h := hsp rfl; rcases ph with _ | _ | _ | _ | ph <;> simp_all
    have e18 : a.tmps[18]?.getD undef = .pointer (some ⟨p, 1, none⟩) := dep_val (ht.dep 15 18 (by kernel_rfl) rfl) (by decide) (by decide)
    have e14 : a.tmps[14]?.getD undef = .string d := dep_val (ht.dep 10 14 (by kernel_rfl) rfl) (by decide) (by decide)
    obtain ⟨⟨hE, hT⟩, hp1, hown1, hne1, hnr1⟩ := hW
    have hc : w1.cell? ⟨p, 1, none⟩ = some (.string h0) := by simp [World.cell?, hp1]
    have hf : w1.frozen? ⟨p, 1, none⟩ = false := by simp [World.frozen?, hp1]
    refine wp_skip rfl (w' := w1.setCell ⟨p, 1, none⟩ (.string d)) (by go_simp) ⟨undef, rfl, fun d hd => (by cases hd), ?_⟩
    have hX1 : X < w1.heap.size := World.block_lt_of_cell? _ _ hE.1
    have hg : w1.grownBy (w1.setCell ⟨p, 1, none⟩ (.string d)) (some p) := grownBy_set w1 p 1 _
    have hrX : some X ≠ some p := fun h => by cases h; omega
    exact ⟨⟨⟨hg.cell hE.1 hrX, hg.cell hE.2.1 hrX, hg.cell hE.2.2 hrX⟩, hT.trans ⟨hg.os, hg.tape, hg.output, hg.size, fun k hk hs => hg.block k hk (fun h => hs (Or.inl (by cases h; rfl)))⟩⟩, by rw [heap_setCell_same w1 p 1 _ _ _ hp1]; rfl, hown1.kept hg (Or.inr hne1), hne1, hnr1⟩
  · intro a w1 hs hd _ _ hW
    obtain ⟨⟨_, hT⟩, hp1, hown1, hne1, hnr1⟩ := hW
    exact body_end0 rfl hd ⟨rfl, _, hp1, hown1, hne1, hnr1, hT⟩
end Go.Proofs.Ytbajgpbekanodaa
