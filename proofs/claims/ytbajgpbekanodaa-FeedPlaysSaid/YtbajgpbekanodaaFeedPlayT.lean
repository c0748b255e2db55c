/- The walks over a feed that is nil, and over the document's Since. -/
import Derived.Test.YtbajgpbekanodaaFeedActs
import Derived.Laws.AppendOwnNone
namespace Go.Proofs.Ytbajgpbekanodaa
open Go.RowKit

set_option maxRecDepth 100000 in
set_option maxHeartbeats 1000000 in
theorem add_nil (ao : Option Addr) (n cap : Nat) (w : World) : Calls Try.prog 43 #[.pointer none, .slice ao n cap] w fun e w' => e = .returned (.int .i64 1) ∧ Below w.heap.size w w' := by
  go_enter Try.func43, Try.ntmps43
  go_wp2_with fail
  go_ret
  exact ⟨rfl, Below.refl _ _⟩
set_option maxRecDepth 100000 in
set_option maxHeartbeats 1000000 in
theorem take_nil (h : ByteArray) (ao : Option Addr) (n cap : Nat) (w : World) : Calls Try.prog 36 #[.pointer none, .string h, .slice ao n cap] w fun e w' => e = .returned (.int .i64 1) ∧ Below w.heap.size w w' := by
  go_enter Try.func36, Try.ntmps36
  go_upto_region 1 with fail
  refine name_world (fun w3 => w3.cell? ⟨w.heap.size, 0, none⟩ = some (.pointer none) ∧ Below w.heap.size w w3) ⟨cells_new w [.pointer none] _ 0 _ rfl, (Below.refl _ w).alloc (Nat.le_refl _) _⟩ ?_
  rintro w3 ⟨hf0, hb3⟩
  have HB3 := Lib.hid hb3
  clear hb3
  go_wp2_with fail
  go_ret
  exact ⟨rfl, HB3.out⟩
set_option maxRecDepth 100000 in
set_option maxHeartbeats 1000000 in
theorem len_nil (w : World) : Calls Try.prog 45 #[.pointer none] w fun e w' => e = .returned (.int .i64 0) ∧ Below w.heap.size w w' := by
  go_enter Try.func45, Try.ntmps45
  go_wp2_with fail
  go_ret
  exact ⟨rfl, Below.refl _ _⟩
set_option maxRecDepth 100000 in
set_option maxHeartbeats 1000000 in
theorem head_nil (w : World) : Calls Try.prog 37 #[.pointer none] w fun e w' => e = .returned (.string ByteArray.empty) ∧ Below w.heap.size w w' := by
  go_enter Try.func37, Try.ntmps37
  go_wp2_with fail
  go_ret
  exact ⟨rfl, Below.refl _ _⟩
set_option maxRecDepth 100000 in
set_option maxHeartbeats 1000000 in
theorem since_nil (x y : Int) (w : World) : Calls Try.prog 47 #[.pointer none, .int .i64 x, .int .i64 y] w fun e w' => e = .returned (.slice none 0 0) ∧ Below w.heap.size w w' := by
  go_enter Try.func47, Try.ntmps47
  go_wp2_with fail
  go_ret
  exact ⟨rfl, Below.refl _ _⟩

/-- The document's feed in memory, its blocks in T. -/
structure RefIn (T : Nat → Prop) (q : Nat) (es : List Fd.Ent) (v : Value) (w : World) : Prop where
  at_ : w.heap[q]? = some (.cells #[v] 65 (0, 0))
  own : w.ownsRow 0 82 3 v es.length (Fd.flat es)
  ne : v.ownBlock ≠ some q
  mine : T q ∧ ∀ k, v.ownBlock = some k → T k
theorem RefIn.lt {T : Nat → Prop} {q : Nat} {es : List Fd.Ent} {v : Value} {w : World} (h : RefIn T q es v w) : q < w.heap.size := (Array.getElem?_eq_some_iff.1 h.at_).1
theorem RefIn.form {T : Nat → Prop} {q : Nat} {es : List Fd.Ent} {v : Value} {w : World} (h : RefIn T q es v w) : ∃ ao cp, v = .slice ao es.length cp ∧ EntsAt w ao es ∧ es.length ≤ cp ∧ cp ≤ maxLen := entsAt_owns h.own
theorem RefIn.turned {S T : Nat → Prop} {q : Nat} {es : List Fd.Ent} {v : Value} {w w' : World} (h : RefIn S q es v w) (ht : Turned T w w') (hd : ∀ k, S k → k < w.heap.size → ¬ T k) : RefIn S q es v w' := by
  refine ⟨(ht.block q h.lt (hd q h.mine.1 h.lt)).trans h.at_, ⟨h.own.1, ?_⟩, h.ne, h.mine⟩
  rcases h.own.2 with hn | ⟨g, cap, cur, rfl, hb, hg, rest⟩
  · exact .inl hn
  · refine .inr ⟨g, cap, cur, rfl, hb, ?_, rest⟩
    have hlt := (Array.getElem?_eq_some_iff.1 hg).1
    exact (ht.block g hlt (hd g (h.mine.2 g rfl) hlt)).trans hg
theorem RefIn.below {T : Nat → Prop} {q : Nat} {es : List Fd.Ent} {v : Value} {w w' : World} (h : RefIn T q es v w) (hb : Below w.heap.size w w') : RefIn T q es v w' := h.turned (Turned.of_below (S := fun _ => False) hb) (fun _ _ _ h => h)
theorem RefIn.cell {T : Nat → Prop} {q : Nat} {es : List Fd.Ent} {v : Value} {w : World} (h : RefIn T q es v w) : w.cell? ⟨q, 0, none⟩ = some v := by simp [World.cell?, h.at_]

set_option maxRecDepth 100000 in
set_option maxHeartbeats 4000000 in
theorem refSince_any {H : ByteArray → ByteArray} (T : Nat → Prop) (q : Nat) (st : Fd.State) (v : Value) (seq most : Int) (w : World) (hr : RefIn T q st.all v w) (hch : Chained H st) (hn : st.all.length ≤ 1000000) :
    Calls Try.prog 48 #[.pointer (some ⟨q, 0, none⟩), .int .i64 seq, .int .i64 most] w (EntOut w (sinceL st.all seq most)) := by
  obtain ⟨i0, hi, hz0, hz1, hz2⟩ := info_partsA infoEnt
  obtain ⟨ao, cp, rfl, hat, hncp, hcpm⟩ := hr.form
  have hql := hr.lt
  have hcell := hr.cell
  have HSEQ := Lib.hid (fun i (hi : i < st.all.length) => hch.seq hi)
  have HZ := Lib.hid (sinceK_all st.all seq most)
  have HSU := Lib.hid (fun k hk => sinceK_succ st.all seq most k hk)
  have HSL := Lib.hid (fun k => sinceK_len st.all seq most k)
  have HS0 := Lib.hid (sinceK_zero st.all seq most)
  have HAT := Lib.hid hat
  generalize st.all = all at *
  obtain ⟨n, hnn⟩ : ∃ n, n = all.length := ⟨_, rfl⟩
  have HN := Lib.hid hnn
  have hn6 : (n : Int) ≤ 1000000 := by omega
  rw [← hnn] at hcell
  clear hat hr hch hnn hn hncp hcpm
  go_enter Try.func48, Try.ntmps48
  go_wp2_with fail
  go_loopw [7, 8] (fun o i wr => ∃ (k L C : Nat) (oo : Option Addr), (k : Int) ≤ (n : Int) ∧ (L : Int) ≤ 1000000 ∧ i = .int .i64 (k : Int) ∧ o = .slice oo L C ∧ Hid (wr.ownsRow w.heap.size 82 3 (.slice oo L C) L (Fd.flat (sinceK all seq most k))) ∧ Hid (L = (sinceK all seq most k).length) ∧ Hid (Below w.heap.size w wr)) (fun _ i _ => n - (intOf i).toNat)
  case atStart => exact ⟨0, 0, 0, none, by omega, by omega, rfl, rfl, by show World.ownsRow _ _ _ _ _ _ _; rw [HS0.out]; exact World.ownsRow_nil _ _ _ _, by show 0 = _; rw [HS0.out]; rfl, Below.refl _ _⟩
  case round =>
    obtain ⟨k, L, C, oo, hk, hL, rfl, rfl, HOW, HLE, HBE⟩ := hrel
    have hk0 : (0 : Int) ≤ (k : Int) := Int.natCast_nonneg _
    have hcl := (HBE.out.cell (p := ⟨q, 0, none⟩) hql).trans hcell
    have HQL : Hid (q < w.heap.size) := hql
    by_cases hlt : (k : Int) < (n : Int)
    · have hkl : k < all.length := by rw [← HN.out]; omega
      obtain ⟨b2, o2, rfl, hbl, hce0⟩ := HAT.out k hkl
      have hce := hce0.kept HBE.out hbl
      have hsq := HSEQ.out k hkl
      have HST := Lib.hid (HSU.out k hkl)
      have HSL1 := Lib.hid (HSL.out (k + 1))
      generalize all.getD k Ent0 = x at *
      obtain ⟨xs, xp, xb⟩ := x
      obtain ⟨y0, y1, y2⟩ := hce
      simp only at y0 y1 y2 hsq
      subst hsq
      clear hkl hce0
      by_cases h1 : seq < (k : Int) + 1
      · by_cases h2 : (L : Int) < most
        · have HS2 : Hid (sinceK all seq most (k + 1) = sinceK all seq most k ++ [⟨(k : Int) + 1, xp, xb⟩]) := by
            show _ = _
            rw [HST.out, if_pos ⟨h1, by rw [← HLE.out]; exact h2⟩]
          have HLL : Hid (L + 1 ≤ 1000000) := by
            have h3 := HSL1.out
            rw [HS2.out, List.length_append, ← HLE.out, ← HN.out] at h3
            show _ ≤ _
            simp at h3
            omega
          have HBW : Hid (w.heap.size ≤ wr.heap.size) := HBE.out.size
          clear HST HSL1 hcl
          have hcl := (HBE.out.cell (p := ⟨q, 0, none⟩) hql).trans hcell
          go_wp2_with (at_builtin; refine wpList_append_own _ rfl _ _ 49 rfl w.heap.size 82 i0 _ 3 40 Try.underlying49 hi hz0 hz1 hz2 rfl (by decide) _ L _ rfl (HOW.out.alloc _) ⟨wr.heap.size, 0, none⟩ 1 1 [.int .i64 ((k : Int) + 1), .string xp, .string xb] rfl rfl (cells_new wr [.int .i64 ((k : Int) + 1), .string xp, .string xb] _) (by intro u hu; simp at hu; rcases hu with rfl | rfl | rfl <;> rfl) (by have := HLL.out; unfold maxLen; omega) (by have := HLL.out; omega) (by have := HBW.out; simp; omega) ?_)
          intro v' w4 hown4 hgrow _
          obtain ⟨g4, c4, rfl, _, _⟩ := hown4.form (by omega)
          have HOW4 : Hid (w4.ownsRow w.heap.size 82 3 (.slice (some ⟨g4, 0, none⟩) (L + 1) c4) (L + 1) (Fd.flat (sinceK all seq most (k + 1)))) := by
            show World.ownsRow _ _ _ _ _ _ _
            rw [HS2.out, Fd.flat_append, Fd.flat_one]
            exact hown4
          have HL4 : Hid (L + 1 = (sinceK all seq most (k + 1)).length) := by show _ = _; rw [HS2.out, List.length_append, ← HLE.out]; rfl
          have HBE4 : Hid (Below w.heap.size w w4) := (HBE.out.alloc HBE.out.size _).grown hgrow (by have := HBE.out.size; simp; omega) (fun g hg => (HOW.out.lt g hg).1)
          have hL4 : ((L + 1 : Nat) : Int) ≤ 1000000 := by have := HLL.out; omega
          clear hown4 hgrow HOW HLE HBE HS2 HLL hcl HBW
          go_wp2_with fail
          go_roundw
          case rel => exact ⟨k + 1, L + 1, c4, some ⟨g4, 0, none⟩, by omega, hL4, by go_num, rfl, HOW4, HL4, HBE4⟩
          case measure => simp [intOf]; omega
        · have HS2 : Hid (sinceK all seq most (k + 1) = sinceK all seq most k) := by
            show _ = _
            rw [HST.out, if_neg (fun h => h2 (by rw [HLE.out]; exact h.2))]
          have HOW2 : Hid (wr.ownsRow w.heap.size 82 3 (.slice oo L C) L (Fd.flat (sinceK all seq most (k + 1)))) := by show World.ownsRow _ _ _ _ _ _ _; rw [HS2.out]; exact HOW.out
          have HL2 : Hid (L = (sinceK all seq most (k + 1)).length) := by show _ = _; rw [HS2.out]; exact HLE.out
          clear HST HSL1 HOW HLE HS2
          go_wp2_with fail
          go_roundw
          case rel => exact ⟨k + 1, L, C, oo, by omega, hL, by go_num, rfl, HOW2, HL2, HBE⟩
          case measure => simp [intOf]; omega
      · have HS2 : Hid (sinceK all seq most (k + 1) = sinceK all seq most k) := by
          show _ = _
          rw [HST.out, if_neg (fun h => h1 h.1)]
        have HOW2 : Hid (wr.ownsRow w.heap.size 82 3 (.slice oo L C) L (Fd.flat (sinceK all seq most (k + 1)))) := by show World.ownsRow _ _ _ _ _ _ _; rw [HS2.out]; exact HOW.out
        have HL2 : Hid (L = (sinceK all seq most (k + 1)).length) := by show _ = _; rw [HS2.out]; exact HLE.out
        clear HST HSL1 HOW HLE HS2
        go_wp2_with fail
        go_roundw
        case rel => exact ⟨k + 1, L, C, oo, by omega, hL, by go_num, rfl, HOW2, HL2, HBE⟩
        case measure => simp [intOf]; omega
    · obtain rfl : k = n := by omega
      have HOW2 : Hid (wr.ownsRow w.heap.size 82 3 (.slice oo L C) (sinceL all seq most).length (Fd.flat (sinceL all seq most))) := by
        show World.ownsRow _ _ _ _ _ _ _
        have h1 := HOW.out
        have h2 := HLE.out
        have h3 := HZ.out
        rw [← HN.out] at h3
        rw [h3] at h1 h2
        rw [← h2]
        exact h1
      clear hlt HOW HLE
      go_wp2_with fail
      go_ret
      exact ⟨_, rfl, HOW2.out, HBE.out⟩
end Go.Proofs.Ytbajgpbekanodaa
namespace Go.Proofs.Ytbajgpbekanodaa
open Go.RowKit

section
variable {P : Program} {ops : Array Oper}
theorem wp_region_phase_puts (sp : List Nat) (dx dy : Tmp) (ix iy : Nat) {R : Nat → Value → Prop} {W : Nat → Value → Value → World → Prop} {id : Nat} {Q : Exit → Act → World → Prop} {a0 : Act} {w0 : World}
    (hm : P.follows .mixedOrders = true) (hok : localOk2 ops = true) (hng : noGuard ops = true) (hch : chainOk ops sp = true) (hsz : dstBelow ops a0.tmps.size = true)
    (hix : ((ops[ix]?).bind (·.dst)) = some dx) (hiy : ((ops[iy]?).bind (·.dst)) = some dy)
    (hinit : W 0 (a0.tmps.getD dx undef) (a0.tmps.getD dy undef) { w0 with drawn := w0.drawn + 1 })
    (hstep : ∀ (i : Nat) (o : Oper), ops[i]? = some o → ∀ ph a w, phaseOk ops sp i ph = true → (sp.contains i = true → sp.getD ph ops.size = i) → ToldP ops R a0 o a → W ph (a.tmps.getD dx undef) (a.tmps.getD dy undef) w →
      o.wp P a w (fun a' w' => ∃ v, a' = a.put o.dst v ∧ (∀ d, o.dst = some d → R i v) ∧ W (if sp.contains i then ph + 1 else ph) (a'.tmps.getD dx undef) (a'.tmps.getD dy undef) w') Q)
    (hdone : ∀ (vs : List Value) w, vs.length = ops.size → (∀ j d, ((ops[j]?).bind (·.dst)) = some d → R j (vs.getD j undef)) → W sp.length (vs.getD ix undef) (vs.getD iy undef) w → Q .normal (puts (ops.toList.map (·.dst)) vs a0) w) :
    (Code.region id ops true).wp P Q a0 w0 := by
  refine wp_region_phase sp dx dy hm hok hng hch hsz hinit hstep fun a w hs hd hsame hmet hW => ?_
  have key := key_puts (ops := ops) (N := ops.size) (a0 := a0) (a := a) hs hd (fun t h => hsame t (fun i o ho => h i o (Array.getElem?_eq_some_iff.1 ho).1 ho))
  rw [List.take_of_length_le (by simp)] at key
  have hval : ∀ j d, ((ops[j]?).bind (·.dst)) = some d → (ops.toList.map fun o => match o.dst with | some d => a.tmps.getD d undef | none => undef).getD j undef = a.tmps.getD d undef := by
    intro j d hj
    cases ho : ops[j]? with
    | none => rw [ho] at hj; cases hj
    | some o =>
      rw [ho] at hj
      have hd : o.dst = some d := hj
      have hl : ops.toList[j]? = some o := by simpa using ho
      simp [List.getD, hl, hd]
  have h1 : ∀ (L : List Value) (j : Nat) (d : Tmp), ((ops[j]?).bind (·.dst)) = some d → L.getD j undef = a.tmps.getD d undef → R j (L.getD j undef) := fun L j d hj h => by
    rw [h]
    cases ho : ops[j]? with
    | none => rw [ho] at hj; cases hj
    | some o =>
      rw [ho] at hj
      exact hmet j o d ho hj
  have h2 : ∀ (L : List Value), L.getD ix undef = a.tmps.getD dx undef → L.getD iy undef = a.tmps.getD dy undef → W sp.length (L.getD ix undef) (L.getD iy undef) w := fun L h3 h4 => by
    rw [h3, h4]; exact hW
  rw [key]
  exact hdone _ w (by simp) (fun j d hj => h1 _ j d hj (hval j d hj)) (h2 _ (hval ix dx hix) (hval iy dy hiy))
end
/-! ### The document's Add -/
def RPushW (q : Nat) (e : Fd.Ent) (v : Value) (all : List Fd.Ent) (w0 : World) (ph : Nat) (x y : Value) (w' : World) : Prop :=
  Turned (fun k => k = q ∨ v.ownBlock = some k) w0 w' ∧
  match ph with
  | 0 => w'.heap[q]? = some (.cells #[v] 65 (0, 0)) ∧ w'.ownsRow 0 82 3 v all.length (Fd.flat all)
  | 1 => w'.heap[q]? = some (.cells #[v] 65 (0, 0)) ∧ w'.ownsRow 0 82 3 v all.length (Fd.flat all) ∧ ∃ p, y = .slice (some ⟨p, 0, none⟩) 1 1 ∧ ∀ j u, e.cells[j]? = some u → w'.cell? ((⟨p, 0, none⟩ : Addr).add j) = some u
  | 2 => w'.heap[q]? = some (.cells #[v] 65 (0, 0)) ∧ w'.ownsRow 0 82 3 x (all ++ [e]).length (Fd.flat (all ++ [e])) ∧ x.ownBlock ≠ some q ∧ NewRow v x w0
  | _ => w'.heap[q]? = some (.cells #[x] 65 (0, 0)) ∧ w'.ownsRow 0 82 3 x (all ++ [e]).length (Fd.flat (all ++ [e])) ∧ x.ownBlock ≠ some q ∧ NewRow v x w0
theorem rpushW_below {q : Nat} {e : Fd.Ent} {v : Value} {all : List Fd.Ent} {w0 : World} {ph : Nat} {x y : Value} {w w' : World} (h : RPushW q e v all w0 ph x y w) (hb : Below w.heap.size w w') : RPushW q e v all w0 ph x y w' := by
  obtain ⟨hT, h⟩ := h
  have hb' : ∀ {o : Obj}, w.heap[q]? = some o → w'.heap[q]? = some o := fun hp => (hb.block q (Array.getElem?_eq_some_iff.1 hp).1).trans hp
  refine ⟨hT.trans (Turned.of_below hb), ?_⟩
  match ph, h with
  | 0, h => exact ⟨hb' h.1, owns_kept h.2 hb (Nat.le_refl _)⟩
  | 1, ⟨h1, h2, p, h3, h4⟩ => exact ⟨hb' h1, owns_kept h2 hb (Nat.le_refl _), p, h3, fun j u hj => news_kept hb (h4 j u hj)⟩
  | 2, ⟨h1, h2, h3⟩ => exact ⟨hb' h1, owns_kept h2 hb (Nat.le_refl _), h3⟩
  | _ + 3, ⟨h1, h2, h3⟩ => exact ⟨hb' h1, owns_kept h2 hb (Nat.le_refl _), h3⟩
theorem rpushW_early {q : Nat} {e : Fd.Ent} {v : Value} {all : List Fd.Ent} {w0 : World} {ph : Nat} {x y : Value} {w : World} (h : RPushW q e v all w0 ph x y w) (hp : ph ≤ 2) : w.heap[q]? = some (.cells #[v] 65 (0, 0)) := by
  rcases ph with _ | _ | _ | ph
  · exact h.2.1
  · exact h.2.1
  · exact h.2.1
  · omega
theorem rpushW_ents {q : Nat} {e : Fd.Ent} {aa : Option Addr} {L C : Nat} {all : List Fd.Ent} {w0 : World} {ph : Nat} {x y : Value} {w : World} (h : RPushW q e (.slice aa L C) all w0 ph x y w) (hp : ph ≤ 1) (_ : L = all.length) : EntsAt w aa all := by
  have ho : w.ownsRow 0 82 3 (.slice aa L C) all.length (Fd.flat all) := by
    rcases ph with _ | _ | ph
    · exact h.2.2
    · exact h.2.2.1
    · omega
  obtain ⟨ao, cp, hv, hat, _⟩ := entsAt_owns ho
  injection hv with h1
  rw [h1]; exact hat
theorem dep_valU {i : Nat} {v : Value} {l : List Value} {u : List Nat} (h : u.contains i = true ∨ v = l.getD i undef) (hn : u.contains i = false) : v = l.getD i undef := by
  rcases h with h | h
  · rw [hn] at h; cases h
  · exact h
theorem adds_ok (H : ByteArray → ByteArray) (hH : ∀ s, (H s).size = 32) (bs : List ByteArray) : ∀ st : Fd.State, (∀ e ∈ st.all, e.ok) → st.head.size ≤ 32 → st.all.length + bs.length ≤ 1000000 → (∀ s ∈ bs, s.size ≤ 8000) → ∀ e ∈ (st.adds H bs).all, e.ok := by
  induction bs with
  | nil => intro st h _ _ _; exact h
  | cons b bs ih =>
    intro st h1 h2 h3 h4
    rw [List.length_cons] at h3
    have hb := h4 b (by simp)
    refine ih (st.push H (st.next b)) (fun e he => ?_) (by show (H _).size ≤ 32; rw [hH]; exact Nat.le_refl _) (by show (st.all ++ [_]).length + _ ≤ _; rw [List.length_append]; simp; omega) (fun s hs => h4 s (by simp [hs]))
    have he : e ∈ st.all ++ [st.next b] := he
    rcases List.mem_append.1 he with h6 | h6
    · exact h1 e h6
    · rw [List.mem_singleton.1 h6]
      exact ⟨by show -9223372036854775808 ≤ (st.all.length : Int) + 1; omega, by show (st.all.length : Int) + 1 ≤ _; omega, by show st.head.size ≤ _; omega, by show b.size ≤ _; omega, by show st.head.size + b.size ≤ _; omega⟩
set_option maxRecDepth 100000 in
set_option maxHeartbeats 4000000 in
theorem refAdd_big (l : List ByteArray) (ao : Option Addr) (cap q : Nat) (w : World) (hl : (l.length : Int) ≤ 9223372036854775807) (hf : StrsFit l cap) (hc : StrsAt w ao l) (hb : l.any isBig = true) :
    Calls Try.prog 44 #[.pointer (some ⟨q, 0, none⟩), .slice ao l.length cap] w fun e w' => e = .returned (.int .i64 3) ∧ Below w.heap.size w w' := by
  have HF := Lib.hid hf
  have HC := Lib.hid hc
  have HB := Lib.hid hb
  obtain ⟨n, hn⟩ : ∃ n, n = l.length := ⟨_, rfl⟩
  have HN := Lib.hid hn
  rw [← hn] at hl ⊢
  clear hf hc hb hn
  go_enter Try.func44, Try.ntmps44
  go_wp2_with fail
  go_loopw [5] (fun i wr => ∃ k : Nat, (k : Int) ≤ (n : Int) ∧ i = .int .i64 (k : Int) ∧ Hid ((l.take k).any isBig = false) ∧ Hid (wr = w)) (fun i _ => n - (intOf i).toNat)
  case atStart => exact ⟨0, by omega, rfl, rfl, rfl⟩
  case round =>
    obtain ⟨k, hk, rfl, HT, HW⟩ := hrel
    obtain rfl : w = wr := HW.out.symm
    have hk0 : (0 : Int) ≤ (k : Int) := Int.natCast_nonneg _
    by_cases hlt : (k : Int) < (n : Int)
    · have hkl : k < l.length := by have := HN.out; omega
      obtain ⟨b, off, rfl, hbl, hcell⟩ := HC.out k hkl
      have hsm := getD_fit HF.out k
      have HJ : Hid ((l.take (k + 1)).any isBig = isBig (l.getD k ByteArray.empty)) := by
        show _ = _
        rw [List.take_succ_eq_append_getElem hkl, List.any_append, HT.out, getD_lt l k hkl]
        simp
      generalize l.getD k ByteArray.empty = s at *
      unfold maxLen at hsm
      have hsm2 : (s.size : Int) ≤ 9223372036854775807 := by omega
      clear hkl hsm
      by_cases h8 : (8000 : Int) < (s.size : Int)
      · go_wp2_with fail
        go_ret
        exact ⟨rfl, Below.refl _ _⟩
      · have HT2 : Hid ((l.take (k + 1)).any isBig = false) := by show _ = _; rw [HJ.out]; unfold isBig; exact decide_eq_false h8
        clear HJ HT
        go_wp2_with fail
        go_roundw
        case rel => exact ⟨k + 1, by omega, by go_num, HT2, trivial⟩
        case measure => simp [intOf]; omega
    · exfalso
      have h1 := HT.out
      have h2 := HB.out
      rw [List.take_of_length_le (by have := HN.out; omega), h2] at h1
      cases h1
set_option maxRecDepth 100000 in
set_option maxHeartbeats 8000000 in
theorem refAdd_any {H : ByteArray → ByteArray} (hS : RefLaw H) (l : List ByteArray) (ao : Option Addr) (cap : Nat) (T : Nat → Prop) (q : Nat) (st : Fd.State) (v : Value) (w : World) (hch : Chained H st) (hok : ∀ e ∈ st.all, e.ok) (hl : st.all.length + l.length ≤ 100000) (hh : st.head.size ≤ 32) (hr : RefIn T q st.all v w) (hc : StrsAt w ao l)
    (hsep : ∀ b off, ao = some ⟨b, off, none⟩ → 0 < l.length → ¬ T b) (hb : l.any isBig = false) :
    Calls Try.prog 44 #[.pointer (some ⟨q, 0, none⟩), .slice ao l.length cap] w fun e w' => e = .returned (.int .i64 0) ∧ ∃ v', RefIn (fun k => T k ∨ w.heap.size ≤ k) q (st.adds H l).all v' w' ∧ Turned T w w' := by
  obtain ⟨i0, hi, hz0, hz1, hz2⟩ := info_partsA infoEnt
  have HB := Lib.hid (fun k hk => any_out hb k hk)
  have HCH : Hid (∀ k, Chained H (st.adds H (l.take k))) := fun k => chained_runs H _ st hch
  have HOKS : Hid (∀ k, ∀ e ∈ (st.adds H (l.take k)).all, e.ok) := fun k => adds_ok H hS.1 (l.take k) st hok hh (by rw [List.length_take]; omega) (fun s hs => not_big hb s (List.mem_of_mem_take hs))
  have HLEN : Hid (∀ k, (st.adds H (l.take k)).all.length ≤ 100000) := fun k => by rw [adds_len, List.length_take]; omega
  obtain ⟨n, hn⟩ : ∃ n, n = l.length := ⟨_, rfl⟩
  have HN := Lib.hid hn
  have HC := Lib.hid hc
  have HR := Lib.hid hr
  have HSEP := Lib.hid hsep
  have HALL : Hid (st.adds H l = st.adds H (l.take n)) := by show _ = _; rw [hn, List.take_length]
  rw [← hn]
  have hn6 : (n : Int) ≤ 100000 := by omega
  clear hn hc hr hl hh hsep hb hch hok
  go_enter Try.func44, Try.ntmps44
  go_wp2_with fail
  go_loopw [5] (fun i wr => ∃ k : Nat, (k : Int) ≤ (n : Int) ∧ i = .int .i64 (k : Int) ∧ Hid (wr = w)) (fun i _ => n - (intOf i).toNat)
  case atStart => exact ⟨0, by omega, rfl, rfl⟩
  case round =>
    obtain ⟨k, hk, rfl, HW⟩ := hrel
    obtain rfl : w = wr := HW.out.symm
    have hk0 : (0 : Int) ≤ (k : Int) := Int.natCast_nonneg _
    by_cases hlt : (k : Int) < (n : Int)
    · have hkl : k < l.length := by have := HN.out; omega
      obtain ⟨b, off, rfl, hbl, hcell⟩ := HC.out k hkl
      have h8 := HB.out k hkl
      generalize l.getD k ByteArray.empty = s at *
      have h82 : ¬ (8000 : Int) < (s.size : Int) := by omega
      have h83 : (s.size : Int) ≤ 8000 := by omega
      clear hkl h8
      go_wp2_with fail
      go_roundw
      case rel => exact ⟨k + 1, by omega, by go_num, trivial⟩
      case measure => simp [intOf]; omega
    · obtain rfl : k = n := by omega
      clear hlt
      have HF0 : Hid (∃ v', RefIn (fun k => T k ∨ w.heap.size ≤ k) q (st.adds H (l.take 0)).all v' w) :=
        ⟨v, HR.out.at_, HR.out.own, HR.out.ne, Or.inl HR.out.mine.1, fun k hk => Or.inl (HR.out.mine.2 k hk)⟩
      go_wp2_with fail
      go_loopw [6] (fun i wr => ∃ k' : Nat, (k' : Int) ≤ (k : Int) ∧ i = .int .i64 (k' : Int) ∧ Hid (∃ v', RefIn (fun k => T k ∨ w.heap.size ≤ k) q (st.adds H (l.take k')).all v' wr) ∧ Hid (Turned T w wr)) (fun i _ => k - (intOf i).toNat)
      case atStart => exact ⟨0, by omega, rfl, HF0, Turned.refl _ _⟩
      case round =>
        clear HF0
        generalize k = n at *
        obtain ⟨k, hk, rfl, HFk, HTk⟩ := hrel
        have hk0 : (0 : Int) ≤ (k : Int) := Int.natCast_nonneg _
        by_cases hlt : (k : Int) < (n : Int)
        · have hkl : k < l.length := by rw [← HN.out]; omega
          obtain ⟨b, off, rfl, hbl, hcell0⟩ := HC.out k hkl
          have hcell : wr.cell? ⟨b, off + k, none⟩ = some (.string (l.getD k ByteArray.empty)) := (World.cell?_of_block (HTk.out.block b hbl (HSEP.out b off rfl (by omega)))).trans hcell0
          have HS8 := Lib.hid (HB.out k hkl)
          have HADD := Lib.hid (adds_take H st l k hkl)
          have HLEN1 := Lib.hid (HLEN.out k)
          have HLEN2 := Lib.hid (HLEN.out (k + 1))
          have HCHK := Lib.hid (HCH.out k)
          have HOKK := Lib.hid (HOKS.out k)
          have HBL : Hid (b < wr.heap.size) := Nat.lt_of_lt_of_le hbl HTk.out.size
          have HSB := Lib.hid (HSEP.out b off rfl (by omega))
          clear hcell0 hkl
          generalize st.adds H (l.take k) = sk at *
          generalize l.getD k ByteArray.empty = s at *
          obtain ⟨v', hfk⟩ := HFk.out
          obtain ⟨aa, C, hvk, _⟩ := hfk.form
          subst hvk
          have HSEP2 : Hid (¬ (b = q ∨ (Value.slice aa sk.all.length C).ownBlock = some b)) := fun h => by
            have h9 : T b ∨ w.heap.size ≤ b := by
              rcases h with h | h
              · rw [h]; exact hfk.mine.1
              · exact hfk.mine.2 b h
            rcases h9 with h9 | h9
            · exact HSB.out h9
            · omega
          have HNE : Hid ((Value.slice aa sk.all.length C).ownBlock ≠ some q) := hfk.ne
          have HFK := Lib.hid hfk
          have CHD : Hid (∀ w', EntsAt w' aa sk.all → Calls Try.prog 46 #[.slice aa sk.all.length C] w' fun e w'' => e = .returned (.string sk.head) ∧ Below w'.heap.size w' w'') := fun w' h => by
            have h9 := refHead_any hS sk.all aa C w' h HOKK.out (by have := HLEN1.out; omega)
            rw [HCHK.out.headL] at h9
            exact h9
          have HW0 : Hid (∀ (x y : Value), RPushW q ⟨(sk.all.length : Int) + 1, sk.head, s⟩ (.slice aa sk.all.length C) sk.all wr 0 x y wr.drew) := fun x y =>
            ⟨Turned.of_below ((Below.refl _ wr).drew), HFK.out.at_, HFK.out.own⟩
          have HPU : Hid (st.adds H (l.take (k + 1)) = sk.push H (sk.next s)) := HADD.out
          have HNX : Hid (sk.next s = ⟨(sk.all.length : Int) + 1, sk.head, s⟩) := rfl
          obtain ⟨all, hall⟩ : ∃ all, all = sk.all := ⟨_, rfl⟩
          obtain ⟨hd, hhd⟩ : ∃ hd, hd = sk.head := ⟨_, rfl⟩
          obtain ⟨L, hL⟩ : ∃ L, L = sk.all.length := ⟨_, rfl⟩
          have HLA : Hid (L = all.length) := by show _ = _; rw [hL, hall]
          have HL6 : Hid (L ≤ 100000) := by show _ ≤ _; rw [hL]; exact HLEN1.out
          have hL6 : (L : Int) ≤ 100000 := by have := HL6.out; omega
          have HALLK := Lib.hid hall
          rw [← hL, ← hhd, ← hall] at HW0
          rw [← hL, ← hhd] at HNX
          rw [← hL] at HSEP2 HNE HFK
          rw [← hL, ← hhd, ← hall] at CHD
          have hcq : wr.cell? ⟨q, 0, none⟩ = some (.slice aa L C) := HFK.out.cell
          have hL0 : (0 : Int) ≤ (L : Int) := Int.natCast_nonneg _
          have hqL : IntKind.i64.wrap ((L : Int) + 1) = (L : Int) + 1 := IntWalk.i64_in _ ⟨by omega, by omega⟩
          clear hfk HFk hall hhd hL HADD HOKK HCHK HLEN1 HLEN2 HSB hbl
          go_wp2_with fail
          have hW0 := HW0.out
          refine wp_region_phase_puts [21, 22, 25] 47 46 22 21 (R := fun qi v => ([21, 22] : List Nat).contains qi = true ∨ v = [.pointer (some ⟨q, 0, none⟩), .pointer (some ⟨q, 0, none⟩), .pointer (some ⟨q, 0, none⟩), .pointer (some ⟨q, 0, none⟩), .slice aa L C, .pointer (some ⟨q, 0, none⟩), .pointer (some ⟨q, 0, none⟩), .pointer (some ⟨q, 0, none⟩), .slice aa L C, .int .i64 (L : Int), .int .i64 ((L : Int) + 1), .pointer (some ⟨q, 0, none⟩), .pointer (some ⟨q, 0, none⟩), .pointer (some ⟨q, 0, none⟩), .slice aa L C, .string hd, .slice (some ⟨b, off, none⟩) n cap, .int .i64 (k : Int), .pointer (some ⟨b, off + k, none⟩), .string s, .agg #[.int .i64 ((L : Int) + 1), .string hd, .string s], undef, undef, .pointer (some ⟨q, 0, none⟩), .pointer (some ⟨q, 0, none⟩), undef].getD qi undef) (W := RPushW q ⟨(L : Int) + 1, hd, s⟩ (.slice aa L C) all wr)
            (by kernel_rfl) (by kernel_rfl) (by kernel_rfl) (by kernel_rfl) (by kernel_rfl) rfl rfl (hW0 _ _) (steps_of ⟨?_, ?_, ?_, ?_, ?_, ?_, ?_, ?_, ?_, ?_, ?_, ?_, ?_, ?_, ?_, ?_, ?_, ?_, ?_, ?_, ?_, ?_, ?_, ?_, ?_, ?_, trivial⟩) ?_
          · intro ph a w1 hpo hsp ht hW
            have e0 : a.tmps[0]?.getD undef = .pointer (some ⟨q, 0, none⟩) := ht.old 0 (.pointer (some ⟨q, 0, none⟩)) (by kernel_rfl) rfl
            refine wp_value (v := .pointer (some ⟨q, 0, none⟩)) (w' := w1) (by go_simp) ⟨_, rfl, fun _ _ => Or.inr rfl, ?_⟩
            rw [put_keeps _ _ _ 47 (by decide), put_keeps _ _ _ 46 (by decide)]
            exact hW
          · intro ph a w1 hpo hsp ht hW
            have e0 : a.tmps[0]?.getD undef = .pointer (some ⟨q, 0, none⟩) := ht.old 0 (.pointer (some ⟨q, 0, none⟩)) (by kernel_rfl) rfl
            refine wp_value (v := .pointer (some ⟨q, 0, none⟩)) (w' := w1) (by go_simp) ⟨_, rfl, fun _ _ => Or.inr rfl, ?_⟩
            rw [put_keeps _ _ _ 47 (by decide), put_keeps _ _ _ 46 (by decide)]
            exact hW
          · intro ph a w1 hpo hsp ht hW
            have e26 : a.tmps[26]?.getD undef = .pointer (some ⟨q, 0, none⟩) := dep_valU (ht.dep 1 26 (by kernel_rfl) rfl) (by decide)
            refine wp_value (v := .pointer (some ⟨q, 0, none⟩)) (w' := w1) (by go_simp) ⟨_, rfl, fun _ _ => Or.inr rfl, ?_⟩
            rw [put_keeps _ _ _ 47 (by decide), put_keeps _ _ _ 46 (by decide)]
            exact hW
          · intro ph a w1 hpo hsp ht hW
            have e27 : a.tmps[27]?.getD undef = .pointer (some ⟨q, 0, none⟩) := dep_valU (ht.dep 2 27 (by kernel_rfl) rfl) (by decide)
            refine wp_value (v := .pointer (some ⟨q, 0, none⟩)) (w' := w1) (by go_simp) ⟨_, rfl, fun _ _ => Or.inr rfl, ?_⟩
            rw [put_keeps _ _ _ 47 (by decide), put_keeps _ _ _ 46 (by decide)]
            exact hW
          · intro ph a w1 hpo hsp ht hW
            have e28 : a.tmps[28]?.getD undef = .pointer (some ⟨q, 0, none⟩) := dep_valU (ht.dep 3 28 (by kernel_rfl) rfl) (by decide)
            have hq1 := rpushW_early hW (phase_le hpo 2 rfl (by kernel_rfl))
            have hc0 : w1.cell? ⟨q, 0, none⟩ = some (.slice aa L C) := by simp [World.cell?, hq1]
            refine wp_value (v := .slice aa L C) (w' := w1) (by go_simp) ⟨_, rfl, fun _ _ => Or.inr rfl, ?_⟩
            rw [put_keeps _ _ _ 47 (by decide), put_keeps _ _ _ 46 (by decide)]
            exact hW
          · intro ph a w1 hpo hsp ht hW
            have e0 : a.tmps[0]?.getD undef = .pointer (some ⟨q, 0, none⟩) := ht.old 0 (.pointer (some ⟨q, 0, none⟩)) (by kernel_rfl) rfl
            refine wp_value (v := .pointer (some ⟨q, 0, none⟩)) (w' := w1) (by go_simp) ⟨_, rfl, fun _ _ => Or.inr rfl, ?_⟩
            rw [put_keeps _ _ _ 47 (by decide), put_keeps _ _ _ 46 (by decide)]
            exact hW
          · intro ph a w1 hpo hsp ht hW
            have e30 : a.tmps[30]?.getD undef = .pointer (some ⟨q, 0, none⟩) := dep_valU (ht.dep 5 30 (by kernel_rfl) rfl) (by decide)
            refine wp_value (v := .pointer (some ⟨q, 0, none⟩)) (w' := w1) (by go_simp) ⟨_, rfl, fun _ _ => Or.inr rfl, ?_⟩
            rw [put_keeps _ _ _ 47 (by decide), put_keeps _ _ _ 46 (by decide)]
            exact hW
          · intro ph a w1 hpo hsp ht hW
            have e31 : a.tmps[31]?.getD undef = .pointer (some ⟨q, 0, none⟩) := dep_valU (ht.dep 6 31 (by kernel_rfl) rfl) (by decide)
            refine wp_value (v := .pointer (some ⟨q, 0, none⟩)) (w' := w1) (by go_simp) ⟨_, rfl, fun _ _ => Or.inr rfl, ?_⟩
            rw [put_keeps _ _ _ 47 (by decide), put_keeps _ _ _ 46 (by decide)]
            exact hW
          · intro ph a w1 hpo hsp ht hW
            have e32 : a.tmps[32]?.getD undef = .pointer (some ⟨q, 0, none⟩) := dep_valU (ht.dep 7 32 (by kernel_rfl) rfl) (by decide)
            have hq1 := rpushW_early hW (phase_le hpo 2 rfl (by kernel_rfl))
            have hc0 : w1.cell? ⟨q, 0, none⟩ = some (.slice aa L C) := by simp [World.cell?, hq1]
            refine wp_value (v := .slice aa L C) (w' := w1) (by go_simp) ⟨_, rfl, fun _ _ => Or.inr rfl, ?_⟩
            rw [put_keeps _ _ _ 47 (by decide), put_keeps _ _ _ 46 (by decide)]
            exact hW
          · intro ph a w1 hpo hsp ht hW
            have e33 : a.tmps[33]?.getD undef = .slice aa L C := dep_valU (ht.dep 8 33 (by kernel_rfl) rfl) (by decide)
            refine wp_value (v := .int .i64 (L : Int)) (w' := w1) (by go_simp) ⟨_, rfl, fun _ _ => Or.inr rfl, ?_⟩
            rw [put_keeps _ _ _ 47 (by decide), put_keeps _ _ _ 46 (by decide)]
            exact hW
          · intro ph a w1 hpo hsp ht hW
            have e34 : a.tmps[34]?.getD undef = .int .i64 (L : Int) := dep_valU (ht.dep 9 34 (by kernel_rfl) rfl) (by decide)
            refine wp_value (v := .int .i64 ((L : Int) + 1)) (w' := w1) (by go_simp) ⟨_, rfl, fun _ _ => Or.inr rfl, ?_⟩
            rw [put_keeps _ _ _ 47 (by decide), put_keeps _ _ _ 46 (by decide)]
            exact hW
          · intro ph a w1 hpo hsp ht hW
            have e0 : a.tmps[0]?.getD undef = .pointer (some ⟨q, 0, none⟩) := ht.old 0 (.pointer (some ⟨q, 0, none⟩)) (by kernel_rfl) rfl
            refine wp_value (v := .pointer (some ⟨q, 0, none⟩)) (w' := w1) (by go_simp) ⟨_, rfl, fun _ _ => Or.inr rfl, ?_⟩
            rw [put_keeps _ _ _ 47 (by decide), put_keeps _ _ _ 46 (by decide)]
            exact hW
          · intro ph a w1 hpo hsp ht hW
            have e36 : a.tmps[36]?.getD undef = .pointer (some ⟨q, 0, none⟩) := dep_valU (ht.dep 11 36 (by kernel_rfl) rfl) (by decide)
            refine wp_value (v := .pointer (some ⟨q, 0, none⟩)) (w' := w1) (by go_simp) ⟨_, rfl, fun _ _ => Or.inr rfl, ?_⟩
            rw [put_keeps _ _ _ 47 (by decide), put_keeps _ _ _ 46 (by decide)]
            exact hW
          · intro ph a w1 hpo hsp ht hW
            have e37 : a.tmps[37]?.getD undef = .pointer (some ⟨q, 0, none⟩) := dep_valU (ht.dep 12 37 (by kernel_rfl) rfl) (by decide)
            refine wp_value (v := .pointer (some ⟨q, 0, none⟩)) (w' := w1) (by go_simp) ⟨_, rfl, fun _ _ => Or.inr rfl, ?_⟩
            rw [put_keeps _ _ _ 47 (by decide), put_keeps _ _ _ 46 (by decide)]
            exact hW
          · intro ph a w1 hpo hsp ht hW
            have e38 : a.tmps[38]?.getD undef = .pointer (some ⟨q, 0, none⟩) := dep_valU (ht.dep 13 38 (by kernel_rfl) rfl) (by decide)
            have hq1 := rpushW_early hW (phase_le hpo 2 rfl (by kernel_rfl))
            have hc0 : w1.cell? ⟨q, 0, none⟩ = some (.slice aa L C) := by simp [World.cell?, hq1]
            refine wp_value (v := .slice aa L C) (w' := w1) (by go_simp) ⟨_, rfl, fun _ _ => Or.inr rfl, ?_⟩
            rw [put_keeps _ _ _ 47 (by decide), put_keeps _ _ _ 46 (by decide)]
            exact hW
          · intro ph a w1 hpo hsp ht hW
            have e39 : a.tmps[39]?.getD undef = .slice aa L C := dep_valU (ht.dep 14 39 (by kernel_rfl) rfl) (by decide)
            refine wp_calls (f := 46) (args := #[.slice aa L C]) (by go_simp) ((CHD.out w1 (rpushW_ents hW (phase_le hpo 1 rfl (by kernel_rfl)) HLA.out)).mono ?_)
            rintro e w2 ⟨rfl, hb⟩
            refine ⟨_, rfl, _, rfl, fun _ _ => Or.inr rfl, ?_⟩
            rw [put_keeps _ _ _ 47 (by decide), put_keeps _ _ _ 46 (by decide)]
            exact rpushW_below hW hb
          · intro ph a w1 hpo hsp ht hW
            have e1 : a.tmps[1]?.getD undef = .slice (some ⟨b, off, none⟩) n cap := ht.old 1 (.slice (some ⟨b, off, none⟩) n cap) (by kernel_rfl) rfl
            refine wp_value (v := .slice (some ⟨b, off, none⟩) n cap) (w' := w1) (by go_simp) ⟨_, rfl, fun _ _ => Or.inr rfl, ?_⟩
            rw [put_keeps _ _ _ 47 (by decide), put_keeps _ _ _ 46 (by decide)]
            exact hW
          · intro ph a w1 hpo hsp ht hW
            have e6 : a.tmps[6]?.getD undef = .int .i64 (k : Int) := ht.old 6 (.int .i64 (k : Int)) (by kernel_rfl) rfl
            refine wp_value (v := .int .i64 (k : Int)) (w' := w1) (by go_simp) ⟨_, rfl, fun _ _ => Or.inr rfl, ?_⟩
            rw [put_keeps _ _ _ 47 (by decide), put_keeps _ _ _ 46 (by decide)]
            exact hW
          · intro ph a w1 hpo hsp ht hW
            have e41 : a.tmps[41]?.getD undef = .slice (some ⟨b, off, none⟩) n cap := dep_valU (ht.dep 16 41 (by kernel_rfl) rfl) (by decide)
            have e42 : a.tmps[42]?.getD undef = .int .i64 (k : Int) := dep_valU (ht.dep 17 42 (by kernel_rfl) rfl) (by decide)
            refine wp_value (v := .pointer (some ⟨b, off + k, none⟩)) (w' := w1) (by go_simp) ⟨_, rfl, fun _ _ => Or.inr rfl, ?_⟩
            rw [put_keeps _ _ _ 47 (by decide), put_keeps _ _ _ 46 (by decide)]
            exact hW
          · intro ph a w1 hpo hsp ht hW
            have e43 : a.tmps[43]?.getD undef = .pointer (some ⟨b, off + k, none⟩) := dep_valU (ht.dep 18 43 (by kernel_rfl) rfl) (by decide)
            have hcs : w1.cell? ⟨b, off + k, none⟩ = some (.string s) := (hW.1.cell HBL.out HSEP2.out).trans hcell
            refine wp_value (v := .string s) (w' := w1) (by go_simp) ⟨_, rfl, fun _ _ => Or.inr rfl, ?_⟩
            rw [put_keeps _ _ _ 47 (by decide), put_keeps _ _ _ 46 (by decide)]
            exact hW
          · intro ph a w1 hpo hsp ht hW
            have e35 : a.tmps[35]?.getD undef = .int .i64 ((L : Int) + 1) := dep_valU (ht.dep 10 35 (by kernel_rfl) rfl) (by decide)
            have e40 : a.tmps[40]?.getD undef = .string hd := dep_valU (ht.dep 15 40 (by kernel_rfl) rfl) (by decide)
            have e44 : a.tmps[44]?.getD undef = .string s := dep_valU (ht.dep 19 44 (by kernel_rfl) rfl) (by decide)
            refine wp_value (v := .agg #[.int .i64 ((L : Int) + 1), .string hd, .string s]) (w' := w1) (by go_simp) ⟨_, rfl, fun _ _ => Or.inr rfl, ?_⟩
            rw [put_keeps _ _ _ 47 (by decide), put_keeps _ _ _ 46 (by decide)]
            exact hW
          · intro ph a w1 hpo hsp ht hW
            have e45 : a.tmps[45]?.getD undef = .agg #[.int .i64 ((L : Int) + 1), .string hd, .string s] := dep_valU (ht.dep 20 45 (by kernel_rfl) rfl) (by decide)
            obtain rfl : ph = 0 := by have h := hsp rfl; rcases ph with _ | _ | _ | ph <;> simp_all
            refine wp_value (v := .slice (some ⟨w1.heap.size, 0, none⟩) 1 1) (w' := w1.alloc (.cells #[.int .i64 ((L : Int) + 1), .string hd, .string s] 82)) (by go_simp) ⟨_, rfl, fun _ _ => Or.inl rfl, ?_⟩
            have h1 := rpushW_below hW ((Below.refl _ w1).alloc (Nat.le_refl _) (.cells #[.int .i64 ((L : Int) + 1), .string hd, .string s] 82))
            refine ⟨h1.1, h1.2.1, h1.2.2, w1.heap.size, ?_, cells_new w1 [.int .i64 ((L : Int) + 1), .string hd, .string s] _⟩
            exact getD_put_same a 46 _ (by rw [ht.size]; exact Nat.le_of_ble_eq_true rfl)
          · intro ph a w1 hpo hsp ht hW
            have e29 : a.tmps[29]?.getD undef = .slice aa L C := dep_valU (ht.dep 4 29 (by kernel_rfl) rfl) (by decide)
            obtain rfl : ph = 1 := by have h := hsp rfl; rcases ph with _ | _ | _ | ph <;> simp_all
            obtain ⟨hT, hq1, hown1, p1, hy, hnews⟩ := hW
            have hown1' : w1.ownsRow 0 82 3 (.slice aa L C) L (Fd.flat all) := by have h := hown1; rw [← HLA.out] at h; exact h
            refine wp_append_lies w1 _ _ _ rfl 0 82 i0 _ 3 40 Try.underlying49 hi hz0 hz1 hz2 rfl (by omega) (.slice aa L C) L (Fd.flat all) (by rw [getD_spelt]; exact e29) hown1' ⟨p1, 0, none⟩ 1 1 [.int .i64 ((L : Int) + 1), .string hd, .string s] hy rfl hnews (by intro u hu; simp at hu; rcases hu with rfl | rfl | rfl <;> rfl) (by omega) (by have := HL6.out; unfold maxLen; omega) (by have := HL6.out; omega) (Nat.zero_le _) w1.heap.size rfl ?_
            intro gg cap' w2 hown2 hgrow hat hlt2
            refine ⟨_, rfl, fun _ _ => Or.inl rfl, ?_⟩
            have hr2 : some q ≠ (Value.slice aa L C).ownBlock := fun h => HNE.out h.symm
            have hql1 : q < w1.heap.size := (Array.getElem?_eq_some_iff.1 hq1).1
            have kq := (hgrow.block q hql1 hr2).trans hq1
            have ex : ((a.put (some 47) (.slice (some ⟨gg, 0, none⟩) (L + 1) cap')).tmps.getD 47 undef) = .slice (some ⟨gg, 0, none⟩) (L + 1) cap' := getD_put_same a 47 _ (by rw [ht.size]; exact Nat.le_of_ble_eq_true rfl)
            refine ⟨hT.trans ⟨hgrow.os, hgrow.tape, hgrow.output, hgrow.size, fun k hk hs => hgrow.block k hk (fun h => hs (Or.inr h.symm))⟩, kq, ?_⟩
            rw [ex]
            refine ⟨by rw [Fd.flat_append, Fd.flat_one, List.length_append, ← HLA.out]; exact hown2, fun h => ?_, fun k hk => ?_⟩
            rotate_left
            · have hgk : gg = k := by simpa [Value.ownBlock] using hk
              rcases hat with h2 | h2
              · exact Or.inl (by rw [h2, hgk])
              · right; have := hT.size; omega
            have hgp : gg = q := by simpa [Value.ownBlock] using h
            rcases hat with h2 | h2
            · exact HNE.out (by rw [h2, hgp])
            · omega
          · intro ph a w1 hpo hsp ht hW
            have e25 : a.tmps[25]?.getD undef = .pointer (some ⟨q, 0, none⟩) := dep_valU (ht.dep 0 25 (by kernel_rfl) rfl) (by decide)
            refine wp_value (v := .pointer (some ⟨q, 0, none⟩)) (w' := w1) (by go_simp) ⟨_, rfl, fun _ _ => Or.inr rfl, ?_⟩
            rw [put_keeps _ _ _ 47 (by decide), put_keeps _ _ _ 46 (by decide)]
            exact hW
          · intro ph a w1 hpo hsp ht hW
            have e48 : a.tmps[48]?.getD undef = .pointer (some ⟨q, 0, none⟩) := dep_valU (ht.dep 23 48 (by kernel_rfl) rfl) (by decide)
            refine wp_value (v := .pointer (some ⟨q, 0, none⟩)) (w' := w1) (by go_simp) ⟨_, rfl, fun _ _ => Or.inr rfl, ?_⟩
            rw [put_keeps _ _ _ 47 (by decide), put_keeps _ _ _ 46 (by decide)]
            exact hW
          · intro ph a w1 hpo hsp ht hW
            have e49 : a.tmps[49]?.getD undef = .pointer (some ⟨q, 0, none⟩) := dep_valU (ht.dep 24 49 (by kernel_rfl) rfl) (by decide)
            obtain rfl : ph = 2 := by have h := hsp rfl; rcases ph with _ | _ | _ | ph <;> simp_all
            obtain ⟨hT, hq1, hown1, hne1, hnr1⟩ := hW
            obtain ⟨g, cg, hx, _, _⟩ := hown1.form (by simp)
            rw [List.length_append] at hx
            have e47 : a.tmps[47]?.getD undef = .slice (some ⟨g, 0, none⟩) (all.length + [(⟨(L : Int) + 1, hd, s⟩ : Fd.Ent)].length) cg := by rw [← getD_spelt]; exact hx
            have hc : w1.cell? ⟨q, 0, none⟩ = some (.slice aa L C) := by simp [World.cell?, hq1]
            have hf : w1.frozen? ⟨q, 0, none⟩ = false := by simp [World.frozen?, hq1]
            refine wp_skip rfl (w' := w1.setCell ⟨q, 0, none⟩ (.slice (some ⟨g, 0, none⟩) (all.length + [(⟨(L : Int) + 1, hd, s⟩ : Fd.Ent)].length) cg)) (by go_simp) ⟨undef, rfl, fun d hd => (by cases hd), ?_⟩
            have hg : w1.grownBy (w1.setCell ⟨q, 0, none⟩ (.slice (some ⟨g, 0, none⟩) (all.length + [(⟨(L : Int) + 1, hd, s⟩ : Fd.Ent)].length) cg)) (some q) := grownBy_set w1 q 0 _
            exact ⟨hT.trans ⟨hg.os, hg.tape, hg.output, hg.size, fun k hk hs => hg.block k hk (fun h => hs (Or.inl (by cases h; rfl)))⟩, by rw [heap_setCell_same w1 q 0 _ _ _ hq1]; show _ = some (Obj.cells #[a.tmps.getD 47 undef] _ _); rw [hx]; rfl, hown1.kept hg (Or.inr hne1), hne1, hnr1⟩
          · intro vs w8 hl hvs hW8
            have hl : vs.length = 26 := hl
            obtain ⟨v0, r0, rfl, l0⟩ := uncons vs hl
            obtain ⟨v1, r1, rfl, l1⟩ := uncons r0 l0
            obtain ⟨v2, r2, rfl, l2⟩ := uncons r1 l1
            obtain ⟨v3, r3, rfl, l3⟩ := uncons r2 l2
            obtain ⟨v4, r4, rfl, l4⟩ := uncons r3 l3
            obtain ⟨v5, r5, rfl, l5⟩ := uncons r4 l4
            obtain ⟨v6, r6, rfl, l6⟩ := uncons r5 l5
            obtain ⟨v7, r7, rfl, l7⟩ := uncons r6 l6
            obtain ⟨v8, r8, rfl, l8⟩ := uncons r7 l7
            obtain ⟨v9, r9, rfl, l9⟩ := uncons r8 l8
            obtain ⟨v10, r10, rfl, l10⟩ := uncons r9 l9
            obtain ⟨v11, r11, rfl, l11⟩ := uncons r10 l10
            obtain ⟨v12, r12, rfl, l12⟩ := uncons r11 l11
            obtain ⟨v13, r13, rfl, l13⟩ := uncons r12 l12
            obtain ⟨v14, r14, rfl, l14⟩ := uncons r13 l13
            obtain ⟨v15, r15, rfl, l15⟩ := uncons r14 l14
            obtain ⟨v16, r16, rfl, l16⟩ := uncons r15 l15
            obtain ⟨v17, r17, rfl, l17⟩ := uncons r16 l16
            obtain ⟨v18, r18, rfl, l18⟩ := uncons r17 l17
            obtain ⟨v19, r19, rfl, l19⟩ := uncons r18 l18
            obtain ⟨v20, r20, rfl, l20⟩ := uncons r19 l19
            obtain ⟨v21, r21, rfl, l21⟩ := uncons r20 l20
            obtain ⟨v22, r22, rfl, l22⟩ := uncons r21 l21
            obtain ⟨v23, r23, rfl, l23⟩ := uncons r22 l22
            obtain ⟨v24, r24, rfl, l24⟩ := uncons r23 l23
            obtain ⟨v25, r25, rfl, l25⟩ := uncons r24 l24
            obtain rfl := List.eq_nil_of_length_eq_zero l25
            clear hvs
            simp only [puts, List.map, go_sem, List.setIfInBounds_toArray, List.set_cons_succ, List.set_cons_zero]
            have h47 := hW8
            obtain ⟨hT8, hq8, hown8, hne8, hnr8⟩ := hW8
            have HF8 : Hid (∃ v', RefIn (fun k => T k ∨ w.heap.size ≤ k) q (st.adds H (l.take (k + 1))).all v' w8) := by
              rw [HPU.out]
              refine ⟨_, hq8, ?_, hne8, HFK.out.mine.1, fun i hi => ?_⟩
              · show World.ownsRow _ _ _ _ _ (sk.all ++ [sk.next s]).length (Fd.flat (sk.all ++ [sk.next s]))
                rw [HNX.out, ← HALLK.out]
                exact hown8
              · rcases hnr8 i hi with h | h
                · exact HFK.out.mine.2 i h
                · right
                  have h1 := HTk.out.size
                  omega
            have HT8 : Hid (Turned T w w8) := HTk.out.andThen hT8 (fun i hi => by
              rcases hi with h | h
              · rw [h]; exact HFK.out.mine.1
              · exact HFK.out.mine.2 i h)
            clear hT8 hq8 hown8 hne8 hnr8 h47 hW0 HW0 CHD HFK HSEP2 HNE HPU HNX hcq hcell
            go_wp2_with fail
            go_roundw
            case rel => exact ⟨k + 1, by omega, by go_num, HF8, HT8⟩
            case measure => simp [intOf]; omega
        · obtain rfl : k = n := by omega
          clear hlt
          go_wp2_with fail
          go_ret
          refine ⟨rfl, ?_⟩
          rw [HALL.out]
          obtain ⟨v', h⟩ := HFk.out
          exact ⟨v', h, HTk.out⟩
end Go.Proofs.Ytbajgpbekanodaa
namespace Go.Proofs.Ytbajgpbekanodaa
open Go.RowKit

def RefOut (T : Nat → Prop) (q : Nat) (w : World) (r : List Fd.Ent × Int) (e : Ending) (w' : World) : Prop := e = .returned (.int .i64 r.2) ∧ ∃ v', RefIn (fun k => T k ∨ w.heap.size ≤ k) q r.1 v' w' ∧ Turned (fun k => k = q) w w'
theorem refOut_same {T : Nat → Prop} {q : Nat} {all : List Fd.Ent} {v : Value} {w w' : World} (x : Int) (hr : RefIn T q all v w) (hb : Below w.heap.size w w') : RefOut T q w (all, x) (.returned (.int .i64 x)) w' := by
  have h := hr.below hb
  exact ⟨rfl, v, ⟨h.at_, h.own, h.ne, Or.inl h.mine.1, fun k hk => Or.inl (h.mine.2 k hk)⟩, Turned.of_below hb⟩

set_option maxRecDepth 100000 in
set_option maxHeartbeats 8000000 in
theorem refTake_any {H : ByteArray → ByteArray} (hS : RefLaw H) (T : Nat → Prop) (q : Nat) (st : Fd.State) (v : Value) (head : ByteArray) (es : List Fd.Ent) (eo : Option Addr) (cap : Nat) (w : World) (hch : Chained H st) (hok : ∀ e ∈ st.all, e.ok) (heok : ∀ e ∈ es, e.ok) (hl : st.all.length + es.length ≤ 100000) (hr : RefIn T q st.all v w) (hc : EntsAt w eo es) (hfit : es.length ≤ cap ∧ cap ≤ maxLen) :
    Calls Try.prog 42 #[.pointer (some ⟨q, 0, none⟩), .string head, .slice eo es.length cap] w (RefOut T q w (takeD H st.all head es)) := by
  obtain ⟨i0, hi, hz0, hz1, hz2⟩ := info_partsA infoEnt
  obtain ⟨ao, cp, rfl, hat, hncp, hcpm⟩ := hr.form
  have hcq0 := hr.cell
  have hql := hr.lt
  obtain ⟨DD, hDD⟩ : ∃ DD, DD = takeD H st.all head es := ⟨_, rfl⟩
  have HDD : Hid (DD = (let l := es.drop (restOf st.all.length es); if l = [] then (st.all, if head = st.head then 0 else 390) else if goesL H st l = true ∧ headL H l = head ∧ (l.any fun e => isBig e.body) = false then (st.all ++ l, 0) else (st.all, 390))) := by
    show _ = _
    rw [hDD]
    unfold takeD
    rw [hch.headL]
  have HCHD : Hid (∀ w', EntsAt w' ao st.all → Calls Try.prog 46 #[.slice ao st.all.length cp] w' fun e w'' => e = .returned (.string st.head) ∧ Below w'.heap.size w' w'') := fun w' h => by
    have h9 := refHead_any hS st.all ao cp w' h hok (by omega)
    rw [hch.headL] at h9
    exact h9
  have HCGO : Hid (∀ (l : List Fd.Ent) (a : Option Addr) (c : Nat) (w' : World), EntsAt w' a l → (∀ e ∈ l, e.ok) → l.length ≤ 100000 → Calls Try.prog 72 #[.int .i64 (st.all.length : Int), .string st.head, .slice a l.length c] w' fun e w'' => e = .returned (.bool (goesL H st l)) ∧ Below w'.heap.size w' w'') := fun l a c w' h1 h2 h3 =>
    refGoes_any hS st l a c w' h1 h2 h3 (by omega) _ rfl
  have HHL : Hid (∀ (l : List Fd.Ent) (a : Option Addr) (c : Nat) (w' : World), EntsAt w' a l → (∀ e ∈ l, e.ok) → l.length ≤ 100000 → Calls Try.prog 46 #[.slice a l.length c] w' fun e w'' => e = .returned (.string (headL H l)) ∧ Below w'.heap.size w' w'') := fun l a c w' h1 h2 h3 =>
    refHead_any hS l a c w' h1 h2 (by omega)
  have HEOK := Lib.hid heok
  have HR := Lib.hid hr
  have HAT := Lib.hid hat
  have HE := Lib.hid hc
  obtain ⟨all, hall⟩ : ∃ all, all = st.all := ⟨_, rfl⟩
  obtain ⟨hd, hhd⟩ : ∃ hd, hd = st.head := ⟨_, rfl⟩
  obtain ⟨GF, hGF⟩ : ∃ GF : List Fd.Ent → Bool, GF = goesL H st := ⟨_, rfl⟩
  rw [← hDD]
  rw [← hall, ← hhd, ← hGF] at HDD
  rw [← hall, ← hhd] at HCHD
  rw [← hall, ← hhd, ← hGF] at HCGO
  rw [← hall] at HR HAT hcq0 hncp hl
  obtain ⟨n, hn⟩ : ∃ n, n = all.length := ⟨_, rfl⟩
  have HN := Lib.hid hn
  rw [← hn] at hcq0 HCHD HCGO HDD hncp hl
  obtain ⟨m, hm⟩ : ∃ m, m = es.length := ⟨_, rfl⟩
  have HM := Lib.hid hm
  rw [← hm] at hl ⊢
  have hn6 : (n : Int) ≤ 100000 := by omega
  have hnm6 : Hid (n + m ≤ 100000) := hl
  have hcm : (m : Int) ≤ (cap : Int) := by have := hfit.1; omega
  have hcc : (cap : Int) ≤ 9223372036854775807 := by have := hfit.2; unfold maxLen at this; omega
  have hHQL := Lib.hid hql
  clear hch hok heok hl hr hc hfit hat hall hhd hGF hn hm hDD hcpm hql hncp
  go_enter Try.func42, Try.ntmps42
  go_wp2_with fail
  go_loopw [2] (fun x wr => ∃ (k L C : Nat) (aa : Option Addr), x = .slice aa L C ∧ (L : Int) ≤ (C : Int) ∧ (C : Int) ≤ 9223372036854775807 ∧ Hid (L + k = m) ∧ Hid (EntsAt w aa (es.drop k)) ∧ Hid (∀ j, j < k → (es.getD j Ent0).seq ≤ (n : Int)) ∧ Hid (Below w.heap.size w wr)) (fun x _ => sliceLen x)
  case atStart => exact ⟨0, m, cap, eo, rfl, hcm, hcc, rfl, HE, fun j hj => absurd hj (Nat.not_lt_zero _), Below.refl _ _⟩
  case round =>
    clear HE hcm hcc
    obtain ⟨k, L, C, aa, rfl, hLC, hC6, HLK, HEK, HLOW, HBE⟩ := hrel
    have hcq := (HBE.out.cell (p := ⟨q, 0, none⟩) hHQL.out).trans hcq0
    have hL0 : (0 : Int) ≤ (L : Int) := Int.natCast_nonneg _
    by_cases hLz : L = 0
    · subst hLz
      have HKR : Hid (es.drop k = []) := List.drop_of_length_le (by have h1 := HLK.out; rw [← HM.out]; omega)
      have HRK : Hid (es.drop (restOf n es) = []) := by
        show _ = _
        rw [rest_all (fun j hj => HLOW.out j (by have h1 := HLK.out; rw [← HM.out] at hj; omega))]
        exact List.drop_of_length_le (Nat.le_refl _)
      have HD2 : Hid (DD = (all, if head = hd then 0 else 390)) := by
        show _ = _
        rw [HDD.out, if_pos HRK.out]
      clear HDD HKR HRK HLOW HEK HLK
      go_upto_region 1 with fail
      go_quiet (fail)
      have HBE1 : Hid (Below w.heap.size w (wr.drewN nq)) := ⟨HBE.out.os, HBE.out.tape, HBE.out.output, HBE.out.size, HBE.out.block⟩
      have hcq := (HBE1.out.cell (p := ⟨q, 0, none⟩) hHQL.out).trans hcq0
      generalize wr.drewN nq = wq at *
      clear HBE
      go_wp2_with fail
      refine (HCHD.out _ (HAT.out.kept HBE1.out (Nat.le_refl _))).mono ?_
      rintro e w3 ⟨rfl, hb3⟩
      have HBE3 : Hid (Below w.heap.size w w3) := HBE1.out.trans (hb3.mono HBE1.out.size)
      clear hb3 HBE1 hcq
      by_cases hhd : head = hd
      · subst hhd
        have hq : (head.toList == head.toList) = true := by simp
        have HD3 : Hid (DD = (all, 0)) := by show _ = _; rw [HD2.out, if_pos rfl]
        go_wp2_with fail
        go_ret
        rw [HD3.out]
        exact refOut_same 0 HR.out HBE3.out
      · have hq : (head.toList == hd.toList) = false := by rw [beq_eq_false_iff_ne]; exact toList_ne hhd
        have HD3 : Hid (DD = (all, 390)) := by show _ = _; rw [HD2.out, if_neg hhd]
        clear hhd
        go_wp2_with fail
        refine wp_region_puts2 (R := fun qi w' v => v = [Value.slice aa 0 C, .int .i64 0, .bool true, .bool true, undef, undef, undef, undef, undef, undef, undef, undef, undef, undef, undef, undef, undef, .bool true, .bool true, undef, undef, undef, undef, .bool true].getD qi undef)
          (by kernel_rfl) (by kernel_rfl) (by kernel_rfl) ?hRR (by kernel_rfl) (steps_of ?hs) ?hd
        case hRR =>
          intro qi w1 w2 v hb hv
          exact hv
        case hs =>
          refine ⟨?_, ?_, ?_, ?_, ?_, ?_, ?_, ?_, ?_, ?_, ?_, ?_, ?_, ?_, ?_, ?_, ?_, ?_, ?_, ?_, ?_, ?_, ?_, ?_, trivial⟩
          · refine stepOk_value rfl fun a w5 ht => ?_
            have e2 : a.tmps[2]?.getD undef = .slice aa 0 C := ht.old' 2 (.slice aa 0 C) (by kernel_rfl) rfl
            exact ⟨Value.slice aa 0 C, w5, by go_simp, Below.refl _ _, rfl⟩
          · refine stepOk_value rfl fun a w5 ht => ?_
            have e37 : a.tmps[37]?.getD undef = Value.slice aa 0 C := ht.dep' 0 37 (by kernel_rfl) rfl
            exact ⟨.int .i64 0, w5, by go_simp, Below.refl _ _, rfl⟩
          · refine stepOk_value rfl fun a w5 ht => ?_
            have e38 : a.tmps[38]?.getD undef = .int .i64 0 := ht.dep' 1 38 (by kernel_rfl) rfl
            exact ⟨.bool true, w5, by go_simp, Below.refl _ _, rfl⟩
          · refine stepOk_value rfl fun a w5 ht => ?_
            have e39 : a.tmps[39]?.getD undef = .bool true := ht.dep' 2 39 (by kernel_rfl) rfl
            exact ⟨.bool true, w5, by go_simp, Below.refl _ _, rfl⟩
          · exact stepOk_skip 3 40 false true rfl (by decide) (by kernel_rfl) rfl (Nat.le_of_ble_eq_true rfl) (fun w v h => h) (fun w => rfl)
          · exact stepOk_skip 3 40 false true rfl (by decide) (by kernel_rfl) rfl (Nat.le_of_ble_eq_true rfl) (fun w v h => h) (fun w => rfl)
          · exact stepOk_skip 3 40 false true rfl (by decide) (by kernel_rfl) rfl (Nat.le_of_ble_eq_true rfl) (fun w v h => h) (fun w => rfl)
          · exact stepOk_skip 3 40 false true rfl (by decide) (by kernel_rfl) rfl (Nat.le_of_ble_eq_true rfl) (fun w v h => h) (fun w => rfl)
          · exact stepOk_skip 3 40 false true rfl (by decide) (by kernel_rfl) rfl (Nat.le_of_ble_eq_true rfl) (fun w v h => h) (fun w => rfl)
          · exact stepOk_skip 3 40 false true rfl (by decide) (by kernel_rfl) rfl (Nat.le_of_ble_eq_true rfl) (fun w v h => h) (fun w => rfl)
          · exact stepOk_skip 3 40 false true rfl (by decide) (by kernel_rfl) rfl (Nat.le_of_ble_eq_true rfl) (fun w v h => h) (fun w => rfl)
          · exact stepOk_skip 3 40 false true rfl (by decide) (by kernel_rfl) rfl (Nat.le_of_ble_eq_true rfl) (fun w v h => h) (fun w => rfl)
          · exact stepOk_skip 3 40 false true rfl (by decide) (by kernel_rfl) rfl (Nat.le_of_ble_eq_true rfl) (fun w v h => h) (fun w => rfl)
          · exact stepOk_skip 3 40 false true rfl (by decide) (by kernel_rfl) rfl (Nat.le_of_ble_eq_true rfl) (fun w v h => h) (fun w => rfl)
          · exact stepOk_skip 3 40 false true rfl (by decide) (by kernel_rfl) rfl (Nat.le_of_ble_eq_true rfl) (fun w v h => h) (fun w => rfl)
          · exact stepOk_skip 3 40 false true rfl (by decide) (by kernel_rfl) rfl (Nat.le_of_ble_eq_true rfl) (fun w v h => h) (fun w => rfl)
          · exact stepOk_skip 3 40 false true rfl (by decide) (by kernel_rfl) rfl (Nat.le_of_ble_eq_true rfl) (fun w v h => h) (fun w => rfl)
          · refine stepOk_value rfl fun a w5 ht => ?_
            have e40 : a.tmps[40]?.getD undef = .bool true := ht.dep' 3 40 (by kernel_rfl) rfl
            exact ⟨.bool true, w5, by go_simp, Below.refl _ _, rfl⟩
          · refine stepOk_value rfl fun a w5 ht => ?_
            have e54 : a.tmps[54]?.getD undef = .bool true := ht.dep' 17 54 (by kernel_rfl) rfl
            exact ⟨.bool true, w5, by go_simp, Below.refl _ _, rfl⟩
          · exact stepOk_skip 18 55 false true rfl (by decide) (by kernel_rfl) rfl (Nat.le_of_ble_eq_true rfl) (fun w v h => h) (fun w => rfl)
          · exact stepOk_skip 18 55 false true rfl (by decide) (by kernel_rfl) rfl (Nat.le_of_ble_eq_true rfl) (fun w v h => h) (fun w => rfl)
          · exact stepOk_skip 18 55 false true rfl (by decide) (by kernel_rfl) rfl (Nat.le_of_ble_eq_true rfl) (fun w v h => h) (fun w => rfl)
          · exact stepOk_skip 18 55 false true rfl (by decide) (by kernel_rfl) rfl (Nat.le_of_ble_eq_true rfl) (fun w v h => h) (fun w => rfl)
          · refine stepOk_value rfl fun a w5 ht => ?_
            have e55 : a.tmps[55]?.getD undef = .bool true := ht.dep' 18 55 (by kernel_rfl) rfl
            exact ⟨.bool true, w5, by go_simp, Below.refl _ _, rfl⟩
        case hd =>
          intro vs w8 hl hb8 hvs
          have hl : vs.length = 24 := hl
          obtain ⟨v0, r0, rfl, l0⟩ := uncons vs hl
          obtain ⟨v1, r1, rfl, l1⟩ := uncons r0 l0
          obtain ⟨v2, r2, rfl, l2⟩ := uncons r1 l1
          obtain ⟨v3, r3, rfl, l3⟩ := uncons r2 l2
          obtain ⟨v4, r4, rfl, l4⟩ := uncons r3 l3
          obtain ⟨v5, r5, rfl, l5⟩ := uncons r4 l4
          obtain ⟨v6, r6, rfl, l6⟩ := uncons r5 l5
          obtain ⟨v7, r7, rfl, l7⟩ := uncons r6 l6
          obtain ⟨v8, r8, rfl, l8⟩ := uncons r7 l7
          obtain ⟨v9, r9, rfl, l9⟩ := uncons r8 l8
          obtain ⟨v10, r10, rfl, l10⟩ := uncons r9 l9
          obtain ⟨v11, r11, rfl, l11⟩ := uncons r10 l10
          obtain ⟨v12, r12, rfl, l12⟩ := uncons r11 l11
          obtain ⟨v13, r13, rfl, l13⟩ := uncons r12 l12
          obtain ⟨v14, r14, rfl, l14⟩ := uncons r13 l13
          obtain ⟨v15, r15, rfl, l15⟩ := uncons r14 l14
          obtain ⟨v16, r16, rfl, l16⟩ := uncons r15 l15
          obtain ⟨v17, r17, rfl, l17⟩ := uncons r16 l16
          obtain ⟨v18, r18, rfl, l18⟩ := uncons r17 l17
          obtain ⟨v19, r19, rfl, l19⟩ := uncons r18 l18
          obtain ⟨v20, r20, rfl, l20⟩ := uncons r19 l19
          obtain ⟨v21, r21, rfl, l21⟩ := uncons r20 l20
          obtain ⟨v22, r22, rfl, l22⟩ := uncons r21 l21
          obtain ⟨v23, r23, rfl, l23⟩ := uncons r22 l22
          obtain rfl := List.eq_nil_of_length_eq_zero l23
          have h23 : v23 = .bool true := hvs 23 (by decide)
          subst h23
          clear hvs
          simp only [puts, List.map, go_sem, List.setIfInBounds_toArray, List.set_cons_succ, List.set_cons_zero]
          have HB8 : Hid (Below w.heap.size w w8) := HBE3.out.trans (hb8.mono HBE3.out.size)
          clear hb8
          go_wp2_with fail
          go_ret
          rw [HD3.out]
          exact refOut_same 390 HR.out HB8.out
    · have hL1 : (0 : Int) < (L : Int) := by omega
      have hLn : 0 < L := by omega
      have hLd : decide (0 < L) = true := decide_eq_true hLn
      have hkl : k < es.length := by have h1 := HLK.out; rw [← HM.out]; omega
      obtain ⟨b, o, rfl, hbl, hce0⟩ := HEK.out 0 (by rw [List.length_drop]; omega)
      have hgk : (es.drop k).getD 0 Ent0 = es.getD k Ent0 := by rw [List.getD_eq_getElem?_getD, List.getD_eq_getElem?_getD, List.getElem?_drop]; rfl
      rw [hgk] at hce0
      have hce := hce0.kept HBE.out hbl
      have hx0 := hce.1
      rw [Nat.zero_mul, Nat.add_zero] at hx0
      obtain ⟨xs, hxs⟩ : ∃ xs, xs = (es.getD k Ent0).seq := ⟨_, rfl⟩
      rw [← hxs] at hx0
      have HXS := Lib.hid hxs
      clear hce hce0 hgk hxs
      by_cases hsq : xs ≤ (n : Int)
      · have HLOW2 : Hid (∀ j, j < k + 1 → (es.getD j Ent0).seq ≤ (n : Int)) := fun j hj => by
          by_cases h : j < k
          · exact HLOW.out j h
          · obtain rfl : j = k := by omega
            rw [← HXS.out]; exact hsq
        have HD1 : Hid (es.drop (k + 1) = (es.drop k).drop 1) := by show _ = _; rw [List.drop_drop]
        go_upto_region 1 with fail
        go_region
        have HBE1 : Hid (Below w.heap.size w wr.drew) := ⟨HBE.out.os, HBE.out.tape, HBE.out.output, HBE.out.size, HBE.out.block⟩
        generalize wr.drew = wq at *
        obtain ⟨L1, hL1e⟩ : ∃ L1, L = L1 + 1 := ⟨L - 1, by omega⟩
        subst hL1e
        have HLK2 : Hid (L1 + (k + 1) = m) := by show _ = _; have := HLK.out; omega
        by_cases hC1 : C = 1
        · subst hC1
          obtain rfl : L1 = 0 := by omega
          have HEK2 : Hid (EntsAt w (some ⟨b, o, none⟩) (es.drop (k + 1))) := fun i hi => by
            rw [List.length_drop] at hi
            have := HLK2.out
            rw [← HM.out] at hi
            omega
          clear HBE hx0 HEK HLOW HLK hcq hkl hbl
          go_wp2_with fail
          go_roundw
          case rel => exact ⟨k + 1, 0, 0, _, rfl, by omega, by omega, HLK2, HEK2, HLOW2, HBE1⟩
          case measure => simp [sliceLen]
        · have HEK2 : Hid (EntsAt w (some ⟨b, o + 1 * 3, none⟩) (es.drop (k + 1))) := by
            show EntsAt _ _ _
            rw [HD1.out]
            exact entsAt_drop HEK.out 1
          clear HBE hx0 HEK HLOW HLK hcq hkl hbl
          go_wp2_with fail
          go_roundw
          case rel => exact ⟨k + 1, L1, C - 1, _, by simp, by omega, by omega, HLK2, HEK2, HLOW2, HBE1⟩
          case measure => simp [sliceLen]
      · have HRK : Hid (restOf n es = k) := rest_at hkl (fun j hj => HLOW.out j hj) (by rw [← HXS.out]; omega)
        obtain ⟨l, hle⟩ : ∃ l, l = es.drop k := ⟨_, rfl⟩
        have hll : L = l.length := by rw [hle, List.length_drop, ← HM.out]; have := HLK.out; omega
        have hlne : l ≠ [] := fun h => by rw [h] at hll; simp at hll; omega
        have HD2 : Hid (DD = if GF l = true ∧ headL H l = head ∧ (l.any fun e => isBig e.body) = false then (all ++ l, 0) else (all, 390)) := by
          show _ = _
          rw [HDD.out, HRK.out, ← hle, if_neg hlne]
        have HLL := Lib.hid hll
        have HLOK : Hid (∀ e ∈ l, e.ok) := fun e he => HEOK.out e (by rw [hle] at he; exact List.mem_of_mem_drop he)
        have HEL : Hid (EntsAt w (some ⟨b, o, none⟩) l) := by show EntsAt _ _ _; rw [hle]; exact HEK.out
        have hL6 : (L : Int) ≤ 100000 := by have h1 := hnm6.out; have h2 := HLK.out; omega
        have HNL6 : Hid (n + L ≤ 100000) := by have h1 := hnm6.out; have h2 := HLK.out; show _ ≤ _; omega
        have hLz2 : ((L : Int) == 0) = false := by rw [beq_eq_false_iff_ne]; omega
        have hLz3 : (L == 0) = false := by rw [beq_eq_false_iff_ne]; omega
        clear HDD hll hlne hle HRK HXS HEOK
        go_upto_region 1 with fail
        go_region
        have HBE1 : Hid (Below w.heap.size w wr.drew) := ⟨HBE.out.os, HBE.out.tape, HBE.out.output, HBE.out.size, HBE.out.block⟩
        generalize wr.drew = wq at *
        have hcq := (HBE1.out.cell (p := ⟨q, 0, none⟩) hHQL.out).trans hcq0
        clear HBE hx0 HEK HLOW HLK hkl hbl
        go_upto_region 5 with fail
        have CHD : Hid (∀ w', Below wq.heap.size wq w' → Calls Try.prog 46 #[.slice ao n cp] w' fun e w'' => e = .returned (.string hd) ∧ Below w'.heap.size w' w'') := fun w' hb' => HCHD.out w' ((HAT.out.kept HBE1.out (Nat.le_refl _)).kept hb' (Nat.le_refl _))
        have CGO : Hid (∀ w', Below wq.heap.size wq w' → Calls Try.prog 72 #[.int .i64 (n : Int), .string hd, .slice (some ⟨b, o, none⟩) L C] w' fun e w'' => e = .returned (.bool (GF l)) ∧ Below w'.heap.size w' w'') := fun w' hb' => by
          have h := HCGO.out l (some ⟨b, o, none⟩) C w' ((HEL.out.kept HBE1.out (Nat.le_refl _)).kept hb' (Nat.le_refl _)) HLOK.out (by rw [← HLL.out]; omega)
          rw [← HLL.out] at h
          exact h
        have CHL : Hid (∀ w', Below wq.heap.size wq w' → Calls Try.prog 46 #[.slice (some ⟨b, o, none⟩) L C] w' fun e w'' => e = .returned (.string (headL H l)) ∧ Below w'.heap.size w' w'') := fun w' hb' => by
          have h := HHL.out l (some ⟨b, o, none⟩) C w' ((HEL.out.kept HBE1.out (Nat.le_refl _)).kept hb' (Nat.le_refl _)) HLOK.out (by rw [← HLL.out]; omega)
          rw [← HLL.out] at h
          exact h
        clear HCHD HCGO HHL
        generalize hgf : GF l = gf at *
        generalize hhl : headL H l = hl at *
        clear hgf hhl
        cases gf with
        | false =>
          have HD3 : Hid (DD = (all, 390)) := by show _ = _; rw [HD2.out, if_neg (fun h => by cases h.1)]
          refine wp_region_puts2 (R := fun qi w' v => v = [Value.slice (some ⟨b, o, none⟩) L C, .int .i64 (L : Int), .bool false, .bool false, .pointer (some ⟨q, 0, none⟩), .pointer (some ⟨q, 0, none⟩), .pointer (some ⟨q, 0, none⟩), .slice ao n cp, .int .i64 (n : Int), .pointer (some ⟨q, 0, none⟩), .pointer (some ⟨q, 0, none⟩), .pointer (some ⟨q, 0, none⟩), .slice ao n cp, .string hd, .slice (some ⟨b, o, none⟩) L C, .bool false, .bool true, .bool true, .bool true, undef, undef, undef, undef, .bool true].getD qi undef)
            (by kernel_rfl) (by kernel_rfl) (by kernel_rfl) ?hRR (by kernel_rfl) (steps_of ?hs) ?hd
          case hRR =>
            intro qi w1 w2 v hb hv
            exact hv
          case hs =>
            refine ⟨?_, ?_, ?_, ?_, ?_, ?_, ?_, ?_, ?_, ?_, ?_, ?_, ?_, ?_, ?_, ?_, ?_, ?_, ?_, ?_, ?_, ?_, ?_, ?_, trivial⟩
            · refine stepOk_value rfl fun a w5 ht => ?_
              have e2 : a.tmps[2]?.getD undef = .slice (some ⟨b, o, none⟩) L C := ht.old' 2 (.slice (some ⟨b, o, none⟩) L C) (by kernel_rfl) rfl
              exact ⟨Value.slice (some ⟨b, o, none⟩) L C, w5, by go_simp, Below.refl _ _, rfl⟩
            · refine stepOk_value rfl fun a w5 ht => ?_
              have e37 : a.tmps[37]?.getD undef = Value.slice (some ⟨b, o, none⟩) L C := ht.dep' 0 37 (by kernel_rfl) rfl
              exact ⟨.int .i64 (L : Int), w5, by go_simp, Below.refl _ _, rfl⟩
            · refine stepOk_value rfl fun a w5 ht => ?_
              have e38 : a.tmps[38]?.getD undef = .int .i64 (L : Int) := ht.dep' 1 38 (by kernel_rfl) rfl
              exact ⟨.bool false, w5, by go_simp, Below.refl _ _, rfl⟩
            · refine stepOk_value rfl fun a w5 ht => ?_
              have e39 : a.tmps[39]?.getD undef = .bool false := ht.dep' 2 39 (by kernel_rfl) rfl
              exact ⟨.bool false, w5, by go_simp, Below.refl _ _, rfl⟩
            · refine stepOk_value_guarded 3 40 false rfl (by kernel_rfl) rfl (Nat.le_of_ble_eq_true rfl) (fun w v h => h) fun a w5 ht => ?_
              have e0 : a.tmps[0]?.getD undef = .pointer (some ⟨q, 0, none⟩) := ht.old' 0 (.pointer (some ⟨q, 0, none⟩)) (by kernel_rfl) rfl
              exact ⟨.pointer (some ⟨q, 0, none⟩), w5, by go_simp, Below.refl _ _, rfl⟩
            · refine stepOk_value_guarded 3 40 false rfl (by kernel_rfl) rfl (Nat.le_of_ble_eq_true rfl) (fun w v h => h) fun a w5 ht => ?_
              have e41 : a.tmps[41]?.getD undef = .pointer (some ⟨q, 0, none⟩) := ht.dep' 4 41 (by kernel_rfl) rfl
              exact ⟨.pointer (some ⟨q, 0, none⟩), w5, by go_simp, Below.refl _ _, rfl⟩
            · refine stepOk_value_guarded 3 40 false rfl (by kernel_rfl) rfl (Nat.le_of_ble_eq_true rfl) (fun w v h => h) fun a w5 ht => ?_
              have e42 : a.tmps[42]?.getD undef = .pointer (some ⟨q, 0, none⟩) := ht.dep' 5 42 (by kernel_rfl) rfl
              exact ⟨.pointer (some ⟨q, 0, none⟩), w5, by go_simp, Below.refl _ _, rfl⟩
            · refine stepOk_value_guarded 3 40 false rfl (by kernel_rfl) rfl (Nat.le_of_ble_eq_true rfl) (fun w v h => h) fun a w5 ht => ?_
              have e43 : a.tmps[43]?.getD undef = .pointer (some ⟨q, 0, none⟩) := ht.dep' 6 43 (by kernel_rfl) rfl
              have hc0 := (ht.below.cell (p := ⟨q, 0, none⟩) (World.block_lt_of_cell? _ _ hcq)).trans hcq
              exact ⟨.slice ao n cp, w5, by go_simp, Below.refl _ _, rfl⟩
            · refine stepOk_value_guarded 3 40 false rfl (by kernel_rfl) rfl (Nat.le_of_ble_eq_true rfl) (fun w v h => h) fun a w5 ht => ?_
              have e44 : a.tmps[44]?.getD undef = .slice ao n cp := ht.dep' 7 44 (by kernel_rfl) rfl
              exact ⟨.int .i64 (n : Int), w5, by go_simp, Below.refl _ _, rfl⟩
            · refine stepOk_value_guarded 3 40 false rfl (by kernel_rfl) rfl (Nat.le_of_ble_eq_true rfl) (fun w v h => h) fun a w5 ht => ?_
              have e0 : a.tmps[0]?.getD undef = .pointer (some ⟨q, 0, none⟩) := ht.old' 0 (.pointer (some ⟨q, 0, none⟩)) (by kernel_rfl) rfl
              exact ⟨.pointer (some ⟨q, 0, none⟩), w5, by go_simp, Below.refl _ _, rfl⟩
            · refine stepOk_value_guarded 3 40 false rfl (by kernel_rfl) rfl (Nat.le_of_ble_eq_true rfl) (fun w v h => h) fun a w5 ht => ?_
              have e46 : a.tmps[46]?.getD undef = .pointer (some ⟨q, 0, none⟩) := ht.dep' 9 46 (by kernel_rfl) rfl
              exact ⟨.pointer (some ⟨q, 0, none⟩), w5, by go_simp, Below.refl _ _, rfl⟩
            · refine stepOk_value_guarded 3 40 false rfl (by kernel_rfl) rfl (Nat.le_of_ble_eq_true rfl) (fun w v h => h) fun a w5 ht => ?_
              have e47 : a.tmps[47]?.getD undef = .pointer (some ⟨q, 0, none⟩) := ht.dep' 10 47 (by kernel_rfl) rfl
              exact ⟨.pointer (some ⟨q, 0, none⟩), w5, by go_simp, Below.refl _ _, rfl⟩
            · refine stepOk_value_guarded 3 40 false rfl (by kernel_rfl) rfl (Nat.le_of_ble_eq_true rfl) (fun w v h => h) fun a w5 ht => ?_
              have e48 : a.tmps[48]?.getD undef = .pointer (some ⟨q, 0, none⟩) := ht.dep' 11 48 (by kernel_rfl) rfl
              have hc0 := (ht.below.cell (p := ⟨q, 0, none⟩) (World.block_lt_of_cell? _ _ hcq)).trans hcq
              exact ⟨.slice ao n cp, w5, by go_simp, Below.refl _ _, rfl⟩
            · refine stepOk_call_guarded 3 40 false rfl (by kernel_rfl) rfl (Nat.le_of_ble_eq_true rfl) (fun w v h => h) fun a w5 ht => ?_
              have e49 : a.tmps[49]?.getD undef = .slice ao n cp := ht.dep' 12 49 (by kernel_rfl) rfl
              refine ⟨46, #[.slice ao n cp], by go_simp, (CHD.out w5 ht.below).mono ?_⟩
              rintro e w' ⟨rfl, hb⟩
              exact ⟨_, rfl, hb, rfl⟩
            · refine stepOk_value_guarded 3 40 false rfl (by kernel_rfl) rfl (Nat.le_of_ble_eq_true rfl) (fun w v h => h) fun a w5 ht => ?_
              have e2 : a.tmps[2]?.getD undef = .slice (some ⟨b, o, none⟩) L C := ht.old' 2 (.slice (some ⟨b, o, none⟩) L C) (by kernel_rfl) rfl
              exact ⟨.slice (some ⟨b, o, none⟩) L C, w5, by go_simp, Below.refl _ _, rfl⟩
            · refine stepOk_call_guarded 3 40 false rfl (by kernel_rfl) rfl (Nat.le_of_ble_eq_true rfl) (fun w v h => h) fun a w5 ht => ?_
              have e45 : a.tmps[45]?.getD undef = .int .i64 (n : Int) := ht.dep' 8 45 (by kernel_rfl) rfl
              have e50 : a.tmps[50]?.getD undef = .string hd := ht.dep' 13 50 (by kernel_rfl) rfl
              have e51 : a.tmps[51]?.getD undef = .slice (some ⟨b, o, none⟩) L C := ht.dep' 14 51 (by kernel_rfl) rfl
              refine ⟨72, #[.int .i64 (n : Int), .string hd, .slice (some ⟨b, o, none⟩) L C], by go_simp, (CGO.out w5 ht.below).mono ?_⟩
              rintro e w' ⟨rfl, hb⟩
              exact ⟨_, rfl, hb, rfl⟩
            · refine stepOk_value_guarded 3 40 false rfl (by kernel_rfl) rfl (Nat.le_of_ble_eq_true rfl) (fun w v h => h) fun a w5 ht => ?_
              have e52 : a.tmps[52]?.getD undef = .bool false := ht.dep' 15 52 (by kernel_rfl) rfl
              exact ⟨.bool true, w5, by go_simp, Below.refl _ _, rfl⟩
            · refine stepOk_value rfl fun a w5 ht => ?_
              have e40 : a.tmps[40]?.getD undef = .bool false := ht.dep' 3 40 (by kernel_rfl) rfl
              have e53 : a.tmps[53]?.getD undef = .bool true := ht.dep' 16 53 (by kernel_rfl) rfl
              exact ⟨.bool true, w5, by go_simp, Below.refl _ _, rfl⟩
            · refine stepOk_value rfl fun a w5 ht => ?_
              have e54 : a.tmps[54]?.getD undef = .bool true := ht.dep' 17 54 (by kernel_rfl) rfl
              exact ⟨.bool true, w5, by go_simp, Below.refl _ _, rfl⟩
            · exact stepOk_skip 18 55 false true rfl (by decide) (by kernel_rfl) rfl (Nat.le_of_ble_eq_true rfl) (fun w v h => h) (fun w => rfl)
            · exact stepOk_skip 18 55 false true rfl (by decide) (by kernel_rfl) rfl (Nat.le_of_ble_eq_true rfl) (fun w v h => h) (fun w => rfl)
            · exact stepOk_skip 18 55 false true rfl (by decide) (by kernel_rfl) rfl (Nat.le_of_ble_eq_true rfl) (fun w v h => h) (fun w => rfl)
            · exact stepOk_skip 18 55 false true rfl (by decide) (by kernel_rfl) rfl (Nat.le_of_ble_eq_true rfl) (fun w v h => h) (fun w => rfl)
            · refine stepOk_value rfl fun a w5 ht => ?_
              have e55 : a.tmps[55]?.getD undef = .bool true := ht.dep' 18 55 (by kernel_rfl) rfl
              exact ⟨.bool true, w5, by go_simp, Below.refl _ _, rfl⟩
          case hd =>
            intro vs w8 hl hb8 hvs
            have hl : vs.length = 24 := hl
            obtain ⟨v0, r0, rfl, l0⟩ := uncons vs hl
            obtain ⟨v1, r1, rfl, l1⟩ := uncons r0 l0
            obtain ⟨v2, r2, rfl, l2⟩ := uncons r1 l1
            obtain ⟨v3, r3, rfl, l3⟩ := uncons r2 l2
            obtain ⟨v4, r4, rfl, l4⟩ := uncons r3 l3
            obtain ⟨v5, r5, rfl, l5⟩ := uncons r4 l4
            obtain ⟨v6, r6, rfl, l6⟩ := uncons r5 l5
            obtain ⟨v7, r7, rfl, l7⟩ := uncons r6 l6
            obtain ⟨v8, r8, rfl, l8⟩ := uncons r7 l7
            obtain ⟨v9, r9, rfl, l9⟩ := uncons r8 l8
            obtain ⟨v10, r10, rfl, l10⟩ := uncons r9 l9
            obtain ⟨v11, r11, rfl, l11⟩ := uncons r10 l10
            obtain ⟨v12, r12, rfl, l12⟩ := uncons r11 l11
            obtain ⟨v13, r13, rfl, l13⟩ := uncons r12 l12
            obtain ⟨v14, r14, rfl, l14⟩ := uncons r13 l13
            obtain ⟨v15, r15, rfl, l15⟩ := uncons r14 l14
            obtain ⟨v16, r16, rfl, l16⟩ := uncons r15 l15
            obtain ⟨v17, r17, rfl, l17⟩ := uncons r16 l16
            obtain ⟨v18, r18, rfl, l18⟩ := uncons r17 l17
            obtain ⟨v19, r19, rfl, l19⟩ := uncons r18 l18
            obtain ⟨v20, r20, rfl, l20⟩ := uncons r19 l19
            obtain ⟨v21, r21, rfl, l21⟩ := uncons r20 l20
            obtain ⟨v22, r22, rfl, l22⟩ := uncons r21 l21
            obtain ⟨v23, r23, rfl, l23⟩ := uncons r22 l22
            obtain rfl := List.eq_nil_of_length_eq_zero l23
            have h23 : v23 = .bool true := hvs 23 (by decide)
            subst h23
            clear hvs
            simp only [puts, List.map, go_sem, List.setIfInBounds_toArray, List.set_cons_succ, List.set_cons_zero]
            have HB8 : Hid (Below w.heap.size w w8) := HBE1.out.trans (hb8.mono HBE1.out.size)
            clear hb8
            go_wp2_with fail
            go_ret
            rw [HD3.out]
            exact refOut_same 390 HR.out HB8.out
        | true =>
          by_cases hhh : hl = head
          · subst hhh
            have hq : (hl.toList == hl.toList) = true := by simp
            have hq2 : (hl.toList != hl.toList) = false := by simp
            refine wp_region_puts2 (R := fun qi w' v => v = [Value.slice (some ⟨b, o, none⟩) L C, .int .i64 (L : Int), .bool false, .bool false, .pointer (some ⟨q, 0, none⟩), .pointer (some ⟨q, 0, none⟩), .pointer (some ⟨q, 0, none⟩), .slice ao n cp, .int .i64 (n : Int), .pointer (some ⟨q, 0, none⟩), .pointer (some ⟨q, 0, none⟩), .pointer (some ⟨q, 0, none⟩), .slice ao n cp, .string hd, .slice (some ⟨b, o, none⟩) L C, .bool true, .bool false, .bool false, .bool false, .slice (some ⟨b, o, none⟩) L C, .string hl, .string hl, .bool false, .bool false].getD qi undef)
              (by kernel_rfl) (by kernel_rfl) (by kernel_rfl) ?hRR (by kernel_rfl) (steps_of ?hs) ?hd
            case hRR =>
              intro qi w1 w2 v hb hv
              exact hv
            case hs =>
              refine ⟨?_, ?_, ?_, ?_, ?_, ?_, ?_, ?_, ?_, ?_, ?_, ?_, ?_, ?_, ?_, ?_, ?_, ?_, ?_, ?_, ?_, ?_, ?_, ?_, trivial⟩
              · refine stepOk_value rfl fun a w5 ht => ?_
                have e2 : a.tmps[2]?.getD undef = .slice (some ⟨b, o, none⟩) L C := ht.old' 2 (.slice (some ⟨b, o, none⟩) L C) (by kernel_rfl) rfl
                exact ⟨Value.slice (some ⟨b, o, none⟩) L C, w5, by go_simp, Below.refl _ _, rfl⟩
              · refine stepOk_value rfl fun a w5 ht => ?_
                have e37 : a.tmps[37]?.getD undef = Value.slice (some ⟨b, o, none⟩) L C := ht.dep' 0 37 (by kernel_rfl) rfl
                exact ⟨.int .i64 (L : Int), w5, by go_simp, Below.refl _ _, rfl⟩
              · refine stepOk_value rfl fun a w5 ht => ?_
                have e38 : a.tmps[38]?.getD undef = .int .i64 (L : Int) := ht.dep' 1 38 (by kernel_rfl) rfl
                exact ⟨.bool false, w5, by go_simp, Below.refl _ _, rfl⟩
              · refine stepOk_value rfl fun a w5 ht => ?_
                have e39 : a.tmps[39]?.getD undef = .bool false := ht.dep' 2 39 (by kernel_rfl) rfl
                exact ⟨.bool false, w5, by go_simp, Below.refl _ _, rfl⟩
              · refine stepOk_value_guarded 3 40 false rfl (by kernel_rfl) rfl (Nat.le_of_ble_eq_true rfl) (fun w v h => h) fun a w5 ht => ?_
                have e0 : a.tmps[0]?.getD undef = .pointer (some ⟨q, 0, none⟩) := ht.old' 0 (.pointer (some ⟨q, 0, none⟩)) (by kernel_rfl) rfl
                exact ⟨.pointer (some ⟨q, 0, none⟩), w5, by go_simp, Below.refl _ _, rfl⟩
              · refine stepOk_value_guarded 3 40 false rfl (by kernel_rfl) rfl (Nat.le_of_ble_eq_true rfl) (fun w v h => h) fun a w5 ht => ?_
                have e41 : a.tmps[41]?.getD undef = .pointer (some ⟨q, 0, none⟩) := ht.dep' 4 41 (by kernel_rfl) rfl
                exact ⟨.pointer (some ⟨q, 0, none⟩), w5, by go_simp, Below.refl _ _, rfl⟩
              · refine stepOk_value_guarded 3 40 false rfl (by kernel_rfl) rfl (Nat.le_of_ble_eq_true rfl) (fun w v h => h) fun a w5 ht => ?_
                have e42 : a.tmps[42]?.getD undef = .pointer (some ⟨q, 0, none⟩) := ht.dep' 5 42 (by kernel_rfl) rfl
                exact ⟨.pointer (some ⟨q, 0, none⟩), w5, by go_simp, Below.refl _ _, rfl⟩
              · refine stepOk_value_guarded 3 40 false rfl (by kernel_rfl) rfl (Nat.le_of_ble_eq_true rfl) (fun w v h => h) fun a w5 ht => ?_
                have e43 : a.tmps[43]?.getD undef = .pointer (some ⟨q, 0, none⟩) := ht.dep' 6 43 (by kernel_rfl) rfl
                have hc0 := (ht.below.cell (p := ⟨q, 0, none⟩) (World.block_lt_of_cell? _ _ hcq)).trans hcq
                exact ⟨.slice ao n cp, w5, by go_simp, Below.refl _ _, rfl⟩
              · refine stepOk_value_guarded 3 40 false rfl (by kernel_rfl) rfl (Nat.le_of_ble_eq_true rfl) (fun w v h => h) fun a w5 ht => ?_
                have e44 : a.tmps[44]?.getD undef = .slice ao n cp := ht.dep' 7 44 (by kernel_rfl) rfl
                exact ⟨.int .i64 (n : Int), w5, by go_simp, Below.refl _ _, rfl⟩
              · refine stepOk_value_guarded 3 40 false rfl (by kernel_rfl) rfl (Nat.le_of_ble_eq_true rfl) (fun w v h => h) fun a w5 ht => ?_
                have e0 : a.tmps[0]?.getD undef = .pointer (some ⟨q, 0, none⟩) := ht.old' 0 (.pointer (some ⟨q, 0, none⟩)) (by kernel_rfl) rfl
                exact ⟨.pointer (some ⟨q, 0, none⟩), w5, by go_simp, Below.refl _ _, rfl⟩
              · refine stepOk_value_guarded 3 40 false rfl (by kernel_rfl) rfl (Nat.le_of_ble_eq_true rfl) (fun w v h => h) fun a w5 ht => ?_
                have e46 : a.tmps[46]?.getD undef = .pointer (some ⟨q, 0, none⟩) := ht.dep' 9 46 (by kernel_rfl) rfl
                exact ⟨.pointer (some ⟨q, 0, none⟩), w5, by go_simp, Below.refl _ _, rfl⟩
              · refine stepOk_value_guarded 3 40 false rfl (by kernel_rfl) rfl (Nat.le_of_ble_eq_true rfl) (fun w v h => h) fun a w5 ht => ?_
                have e47 : a.tmps[47]?.getD undef = .pointer (some ⟨q, 0, none⟩) := ht.dep' 10 47 (by kernel_rfl) rfl
                exact ⟨.pointer (some ⟨q, 0, none⟩), w5, by go_simp, Below.refl _ _, rfl⟩
              · refine stepOk_value_guarded 3 40 false rfl (by kernel_rfl) rfl (Nat.le_of_ble_eq_true rfl) (fun w v h => h) fun a w5 ht => ?_
                have e48 : a.tmps[48]?.getD undef = .pointer (some ⟨q, 0, none⟩) := ht.dep' 11 48 (by kernel_rfl) rfl
                have hc0 := (ht.below.cell (p := ⟨q, 0, none⟩) (World.block_lt_of_cell? _ _ hcq)).trans hcq
                exact ⟨.slice ao n cp, w5, by go_simp, Below.refl _ _, rfl⟩
              · refine stepOk_call_guarded 3 40 false rfl (by kernel_rfl) rfl (Nat.le_of_ble_eq_true rfl) (fun w v h => h) fun a w5 ht => ?_
                have e49 : a.tmps[49]?.getD undef = .slice ao n cp := ht.dep' 12 49 (by kernel_rfl) rfl
                refine ⟨46, #[.slice ao n cp], by go_simp, (CHD.out w5 ht.below).mono ?_⟩
                rintro e w' ⟨rfl, hb⟩
                exact ⟨_, rfl, hb, rfl⟩
              · refine stepOk_value_guarded 3 40 false rfl (by kernel_rfl) rfl (Nat.le_of_ble_eq_true rfl) (fun w v h => h) fun a w5 ht => ?_
                have e2 : a.tmps[2]?.getD undef = .slice (some ⟨b, o, none⟩) L C := ht.old' 2 (.slice (some ⟨b, o, none⟩) L C) (by kernel_rfl) rfl
                exact ⟨.slice (some ⟨b, o, none⟩) L C, w5, by go_simp, Below.refl _ _, rfl⟩
              · refine stepOk_call_guarded 3 40 false rfl (by kernel_rfl) rfl (Nat.le_of_ble_eq_true rfl) (fun w v h => h) fun a w5 ht => ?_
                have e45 : a.tmps[45]?.getD undef = .int .i64 (n : Int) := ht.dep' 8 45 (by kernel_rfl) rfl
                have e50 : a.tmps[50]?.getD undef = .string hd := ht.dep' 13 50 (by kernel_rfl) rfl
                have e51 : a.tmps[51]?.getD undef = .slice (some ⟨b, o, none⟩) L C := ht.dep' 14 51 (by kernel_rfl) rfl
                refine ⟨72, #[.int .i64 (n : Int), .string hd, .slice (some ⟨b, o, none⟩) L C], by go_simp, (CGO.out w5 ht.below).mono ?_⟩
                rintro e w' ⟨rfl, hb⟩
                exact ⟨_, rfl, hb, rfl⟩
              · refine stepOk_value_guarded 3 40 false rfl (by kernel_rfl) rfl (Nat.le_of_ble_eq_true rfl) (fun w v h => h) fun a w5 ht => ?_
                have e52 : a.tmps[52]?.getD undef = .bool true := ht.dep' 15 52 (by kernel_rfl) rfl
                exact ⟨.bool false, w5, by go_simp, Below.refl _ _, rfl⟩
              · refine stepOk_value rfl fun a w5 ht => ?_
                have e40 : a.tmps[40]?.getD undef = .bool false := ht.dep' 3 40 (by kernel_rfl) rfl
                have e53 : a.tmps[53]?.getD undef = .bool false := ht.dep' 16 53 (by kernel_rfl) rfl
                exact ⟨.bool false, w5, by go_simp, Below.refl _ _, rfl⟩
              · refine stepOk_value rfl fun a w5 ht => ?_
                have e54 : a.tmps[54]?.getD undef = .bool false := ht.dep' 17 54 (by kernel_rfl) rfl
                exact ⟨.bool false, w5, by go_simp, Below.refl _ _, rfl⟩
              · refine stepOk_value_guarded 18 55 false rfl (by kernel_rfl) rfl (Nat.le_of_ble_eq_true rfl) (fun w v h => h) fun a w5 ht => ?_
                have e2 : a.tmps[2]?.getD undef = .slice (some ⟨b, o, none⟩) L C := ht.old' 2 (.slice (some ⟨b, o, none⟩) L C) (by kernel_rfl) rfl
                exact ⟨.slice (some ⟨b, o, none⟩) L C, w5, by go_simp, Below.refl _ _, rfl⟩
              · refine stepOk_call_guarded 18 55 false rfl (by kernel_rfl) rfl (Nat.le_of_ble_eq_true rfl) (fun w v h => h) fun a w5 ht => ?_
                have e56 : a.tmps[56]?.getD undef = .slice (some ⟨b, o, none⟩) L C := ht.dep' 19 56 (by kernel_rfl) rfl
                refine ⟨46, #[.slice (some ⟨b, o, none⟩) L C], by go_simp, (CHL.out w5 ht.below).mono ?_⟩
                rintro e w' ⟨rfl, hb⟩
                exact ⟨_, rfl, hb, rfl⟩
              · refine stepOk_value_guarded 18 55 false rfl (by kernel_rfl) rfl (Nat.le_of_ble_eq_true rfl) (fun w v h => h) fun a w5 ht => ?_
                have e1 : a.tmps[1]?.getD undef = .string hl := ht.old' 1 (.string hl) (by kernel_rfl) rfl
                exact ⟨.string hl, w5, by go_simp, Below.refl _ _, rfl⟩
              · refine stepOk_value_guarded 18 55 false rfl (by kernel_rfl) rfl (Nat.le_of_ble_eq_true rfl) (fun w v h => h) fun a w5 ht => ?_
                have e57 : a.tmps[57]?.getD undef = .string hl := ht.dep' 20 57 (by kernel_rfl) rfl
                have e58 : a.tmps[58]?.getD undef = .string hl := ht.dep' 21 58 (by kernel_rfl) rfl
                exact ⟨.bool false, w5, by go_simp, Below.refl _ _, rfl⟩
              · refine stepOk_value rfl fun a w5 ht => ?_
                have e55 : a.tmps[55]?.getD undef = .bool false := ht.dep' 18 55 (by kernel_rfl) rfl
                have e59 : a.tmps[59]?.getD undef = .bool false := ht.dep' 22 59 (by kernel_rfl) rfl
                exact ⟨.bool false, w5, by go_simp, Below.refl _ _, rfl⟩
            case hd =>
              intro vs w8 hl hb8 hvs
              have hl : vs.length = 24 := hl
              obtain ⟨v0, r0, rfl, l0⟩ := uncons vs hl
              obtain ⟨v1, r1, rfl, l1⟩ := uncons r0 l0
              obtain ⟨v2, r2, rfl, l2⟩ := uncons r1 l1
              obtain ⟨v3, r3, rfl, l3⟩ := uncons r2 l2
              obtain ⟨v4, r4, rfl, l4⟩ := uncons r3 l3
              obtain ⟨v5, r5, rfl, l5⟩ := uncons r4 l4
              obtain ⟨v6, r6, rfl, l6⟩ := uncons r5 l5
              obtain ⟨v7, r7, rfl, l7⟩ := uncons r6 l6
              obtain ⟨v8, r8, rfl, l8⟩ := uncons r7 l7
              obtain ⟨v9, r9, rfl, l9⟩ := uncons r8 l8
              obtain ⟨v10, r10, rfl, l10⟩ := uncons r9 l9
              obtain ⟨v11, r11, rfl, l11⟩ := uncons r10 l10
              obtain ⟨v12, r12, rfl, l12⟩ := uncons r11 l11
              obtain ⟨v13, r13, rfl, l13⟩ := uncons r12 l12
              obtain ⟨v14, r14, rfl, l14⟩ := uncons r13 l13
              obtain ⟨v15, r15, rfl, l15⟩ := uncons r14 l14
              obtain ⟨v16, r16, rfl, l16⟩ := uncons r15 l15
              obtain ⟨v17, r17, rfl, l17⟩ := uncons r16 l16
              obtain ⟨v18, r18, rfl, l18⟩ := uncons r17 l17
              obtain ⟨v19, r19, rfl, l19⟩ := uncons r18 l18
              obtain ⟨v20, r20, rfl, l20⟩ := uncons r19 l19
              obtain ⟨v21, r21, rfl, l21⟩ := uncons r20 l20
              obtain ⟨v22, r22, rfl, l22⟩ := uncons r21 l21
              obtain ⟨v23, r23, rfl, l23⟩ := uncons r22 l22
              obtain rfl := List.eq_nil_of_length_eq_zero l23
              have h23 : v23 = .bool false := hvs 23 (by decide)
              subst h23
              clear hvs
              simp only [puts, List.map, go_sem, List.setIfInBounds_toArray, List.set_cons_succ, List.set_cons_zero]
              have HB8 : Hid (Below w.heap.size w w8) := HBE1.out.trans (hb8.mono HBE1.out.size)
              clear hb8 hq hq2 CHD CGO CHL hcq HBE1
              go_wp2_with fail
              go_loopw [7] (fun i wv => ∃ j : Nat, (j : Int) ≤ (L : Int) ∧ i = .int .i64 (j : Int) ∧ Hid (((l.take j).any fun e => isBig e.body) = false) ∧ Hid (wv = w8)) (fun i _ => L - (intOf i).toNat)
              case atStart => exact ⟨0, by omega, rfl, rfl, rfl⟩
              case round =>
                obtain ⟨j, hj, rfl, HNB, HW⟩ := hrel
                obtain rfl : w8 = wr := HW.out.symm
                have hj0 : (0 : Int) ≤ (j : Int) := Int.natCast_nonneg _
                by_cases hlt : (j : Int) < (L : Int)
                · have hjl : j < l.length := by rw [← HLL.out]; omega
                  obtain ⟨_, _, hqq, hbl, hce⟩ := HEL.out j hjl
                  cases hqq
                  have hce := hce.kept HB8.out hbl
                  have HOK1 := Lib.hid (HLOK.out (l.getD j Ent0) (by rw [show l.getD j Ent0 = l[j] by simp [List.getD, hjl]]; exact List.getElem_mem hjl))
                  have HTJ : Hid (((l.take (j + 1)).any fun e => isBig e.body) = isBig (l.getD j Ent0).body) := by
                    show _ = _
                    rw [List.take_succ_eq_append_getElem hjl, List.any_append, HNB.out, show l.getD j Ent0 = l[j] by simp [List.getD, hjl]]
                    simp
                  have HMEM : Hid (l.getD j Ent0 ∈ l) := by show _ ∈ _; rw [show l.getD j Ent0 = l[j] by simp [List.getD, hjl]]; exact List.getElem_mem hjl
                  generalize l.getD j Ent0 = x at *
                  obtain ⟨xs', xp, xb⟩ := x
                  obtain ⟨y0, y1, y2⟩ := hce
                  simp only at y0 y1 y2
                  have hsz : (xb.size : Int) ≤ 140737488355328 := by have := HOK1.out.2.2.2.1; simp only at this; omega
                  clear hjl hbl
                  by_cases h8 : (8000 : Int) < (xb.size : Int)
                  · have HD3 : Hid (DD = (all, 390)) := by
                      show _ = _
                      rw [HD2.out, if_neg]
                      rintro ⟨_, _, h⟩
                      have h9 := List.any_eq_false.1 h _ HMEM.out
                      unfold isBig at h9
                      exact h9 (decide_eq_true h8)
                    clear hsz
                    go_wp2_with fail
                    go_ret
                    rw [HD3.out]
                    exact refOut_same 390 HR.out HB8.out
                  · have HNB2 : Hid (((l.take (j + 1)).any fun e => isBig e.body) = false) := by show _ = _; rw [HTJ.out]; unfold isBig; exact decide_eq_false h8
                    clear HTJ HNB hsz
                    go_wp2_with fail
                    go_roundw
                    case rel => exact ⟨j + 1, by omega, by go_num, HNB2, trivial⟩
                    case measure => simp [intOf]; omega
                · obtain rfl : j = L := by omega
                  have HD3 : Hid (DD = (all ++ l, 0)) := by
                    show _ = _
                    rw [HD2.out, if_pos]
                    refine ⟨trivial, trivial, ?_⟩
                    have h := HNB.out
                    rw [List.take_of_length_le (by rw [← HLL.out]; exact Nat.le_refl _)] at h
                    exact h
                  clear hlt HNB HD2
                  have HQ8 := Lib.hid (HR.out.below HB8.out)
                  have hcq8 := HQ8.out.cell
                  rw [← HN.out] at hcq8
                  have hfq8 : w8.frozen? ⟨q, 0, none⟩ = false := by simp [World.frozen?, HQ8.out.at_]
                  have HEL8 : Hid (EntsAt w8 (some ⟨b, o, none⟩) l) := HEL.out.kept HB8.out (Nat.le_refl _)
                  have HNE8 : Hid (∀ j u, (Fd.flat l)[j]? = some u → w8.cell? ((⟨b, o, none⟩ : Addr).add j) = some u) := news_ents HEL8.out
                  have HB80 : Hid (w.heap.size ≤ w8.heap.size) := HB8.out.size
                  have hQL8 : q < w8.heap.size := Nat.lt_of_lt_of_le hHQL.out HB8.out.size
                  have HLEN : Hid ((Fd.flat l).length = j * 3) := by show _ = _; rw [Fd.flat_length, HLL.out]
                  have HFIN : Hid (∀ (w9 : World) (v9 : Value), w9.ownsRow w.heap.size 82 3 v9 (n + j) (Fd.flat all ++ Fd.flat l) → Below w.heap.size w w9 → RefOut T q w DD (.returned (.int .i64 0)) (w9.setCell ⟨q, 0, none⟩ v9)) := fun w9 v9 h9 hb9 => by
                    rw [HD3.out]
                    have hq9 := (HR.out.below hb9).at_
                    have hne9 : v9.ownBlock ≠ some q := fun h => by have h1 := (h9.lt q h).1; have h2 := hHQL.out; omega
                    refine ⟨rfl, v9, ⟨heap_setCell_same w9 q 0 _ _ _ hq9, ?_, hne9, Or.inl HR.out.mine.1, fun g hg => Or.inr (h9.lt g hg).1⟩, ?_⟩
                    · have h10 := h9.kept (grownBy_set w9 q 0 v9) (Or.inr hne9)
                      rw [List.length_append, ← HN.out, ← HLL.out, Fd.flat_append]
                      exact owns_base h10 (Nat.zero_le _)
                    · have hg := grownBy_set w9 q 0 v9
                      exact (Turned.of_below hb9).trans ⟨hg.os, hg.tape, hg.output, hg.size, fun k hk hs => hg.block k hk (fun h => hs (by cases h; rfl))⟩
                  rcases HR.out.own.2 with ⟨hv0, hn0⟩ | ⟨g, gc, cur, hv0, _, hg8, _⟩
                  · injection hv0 with hv1 hv2 hv3
                    subst hv1 hv3
                    have hall0 : Hid (all = []) := List.eq_nil_of_length_eq_zero hn0
                    have hn00 : n = 0 := HN.out.trans hn0
                    subst hn00
                    clear hn0 hv2
                    have hm1 : Below w8.heap.size w8 (w8.alloc (.cells #[] 82)) := (Below.refl _ w8).alloc (Nat.le_refl _) _
                    have HNE9 : Hid (∀ x u, (Fd.flat l)[x]? = some u → (w8.alloc (.cells #[] 82)).cell? ((⟨b, o, none⟩ : Addr).add x) = some u) := fun x u hu => news_off hm1 (HNE8.out x u hu)
                    have HM1 := Lib.hid hm1
                    clear hm1
                    go_wp2_with (at_builtin; first | (refine wpList_append_own_none rfl _ _ 49 rfl w8.heap.size 82 i0 3 Try.underlying49 hi _ 0 [] rfl (World.ownsRow_made w8 #[] 0 (Nat.le_refl _) (by simp [maxLen]) rfl) rfl ?_) | (refine wpList_append_own _ rfl _ _ 49 rfl w8.heap.size 82 i0 _ 3 40 Try.underlying49 hi hz0 hz1 hz2 rfl (by decide) _ 0 [] rfl (World.ownsRow_made w8 #[] 0 (Nat.le_refl _) (by simp [maxLen]) rfl) ⟨b, o, none⟩ j C (Fd.flat l) rfl HLEN.out HNE9.out (flat_one_cell l) (by have := HNL6.out; unfold maxLen; omega) (by have := HNL6.out; omega) (by simp) ?_))
                    intro v' w3 hown3 hgrow _
                    have hb3 : Below w8.heap.size w8 w3 := HM1.out.grown hgrow (by simp) fun x hx => by
                      have : w8.heap.size = x := by simpa [Value.ownBlock] using hx
                      omega
                    have HOW3 : Hid (w3.ownsRow w.heap.size 82 3 v' (0 + j) (Fd.flat all ++ Fd.flat l)) := by
                      show World.ownsRow _ _ _ _ _ _ _
                      rw [hall0.out, Nat.zero_add, show Fd.flat [] ++ Fd.flat l = Fd.flat l from rfl]
                      exact owns_base (by simpa using hown3) HB80.out
                    have HB3 : Hid (Below w.heap.size w w3) := HB8.out.trans (hb3.mono HB8.out.size)
                    have HQ3 := Lib.hid (HR.out.below HB3.out)
                    have hcq3 := HQ3.out.cell
                    have hfq3 : w3.frozen? ⟨q, 0, none⟩ = false := by simp [World.frozen?, HQ3.out.at_]
                    obtain ⟨g3, c3, rfl, _, _⟩ := hown3.form (by omega)
                    clear hown3 hgrow hb3 hcq8 hfq8 HQ8 HNE9 HNE8
                    go_wp2_with fail
                    go_ret
                    exact HFIN.out _ _ HOW3.out HB3.out
                  · injection hv0 with hv1 hv2 hv3
                    subst hv1 hv3
                    have hm1 : Below w8.heap.size w8 (w8.alloc (.cells #[] 82)) := (Below.refl _ w8).alloc (Nat.le_refl _) _
                    have HNA9 : Hid (∀ x u, (Fd.flat all)[x]? = some u → (w8.alloc (.cells #[] 82)).cell? ((⟨g, 0, none⟩ : Addr).add x) = some u) := fun x u hu => news_off hm1 (news_ents (HAT.out.kept HB8.out (Nat.le_refl _)) x u hu)
                    have HM1 := Lib.hid hm1
                    have HLENA : Hid ((Fd.flat all).length = n * 3) := by show _ = _; rw [Fd.flat_length, ← HN.out]
                    clear hm1 hg8
                    go_wp2_with (at_builtin; refine wpList_append_own _ rfl _ _ 49 rfl w8.heap.size 82 i0 _ 3 40 Try.underlying49 hi hz0 hz1 hz2 rfl (by decide) _ 0 [] rfl (World.ownsRow_made w8 #[] 0 (Nat.le_refl _) (by simp [maxLen]) rfl) ⟨g, 0, none⟩ n cp (Fd.flat all) rfl HLENA.out HNA9.out (flat_one_cell all) (by have := HNL6.out; unfold maxLen; omega) (by have := HNL6.out; omega) (by simp) ?_)
                    intro v' w3 hown3 hgrow _
                    have hb3 : Below w8.heap.size w8 w3 := HM1.out.grown hgrow (by simp) fun x hx => by
                      have : w8.heap.size = x := by simpa [Value.ownBlock] using hx
                      omega
                    have HNE9 : Hid (∀ x u, (Fd.flat l)[x]? = some u → w3.cell? ((⟨b, o, none⟩ : Addr).add x) = some u) := fun x u hu => news_off hb3 (HNE8.out x u hu)
                    have hown3 : w3.ownsRow w8.heap.size 82 3 v' n (Fd.flat all) := by simpa using hown3
                    have HOW3 := Lib.hid hown3
                    have HB3 := Lib.hid hb3
                    have HS3 : Hid (w8.heap.size ≤ w3.heap.size) := hb3.size
                    clear hown3 hgrow hb3 HNA9 HM1 HNE8
                    go_wp2_with (at_builtin; refine wpList_append_own _ rfl _ _ 49 rfl w8.heap.size 82 i0 _ 3 40 Try.underlying49 hi hz0 hz1 hz2 rfl (by decide) _ n (Fd.flat all) rfl HOW3.out ⟨b, o, none⟩ j C (Fd.flat l) rfl HLEN.out HNE9.out (flat_one_cell l) (by have := HNL6.out; unfold maxLen; omega) (by have := HNL6.out; omega) HS3.out ?_)
                    intro v'' w4 hown4 hgrow4 _
                    have hb4 : Below w8.heap.size w8 w4 := HB3.out.grown hgrow4 HB3.out.size fun x hx => (HOW3.out.lt x hx).1
                    have HOW4 : Hid (w4.ownsRow w.heap.size 82 3 v'' (n + j) (Fd.flat all ++ Fd.flat l)) := owns_base hown4 HB80.out
                    have HB4 : Hid (Below w.heap.size w w4) := HB8.out.trans (hb4.mono HB8.out.size)
                    have HQ4 := Lib.hid (HR.out.below HB4.out)
                    have hcq4 := HQ4.out.cell
                    have hfq4 : w4.frozen? ⟨q, 0, none⟩ = false := by simp [World.frozen?, HQ4.out.at_]
                    obtain ⟨g4, c4, rfl, _, _⟩ := hown4.form (by omega)
                    clear hown4 hgrow4 hb4 hcq8 hfq8 HQ8 HNE9 HOW3 HB3
                    go_wp2_with fail
                    go_ret
                    exact HFIN.out _ _ HOW4.out HB4.out
          · have hq : (hl.toList == head.toList) = false := by rw [beq_eq_false_iff_ne]; exact toList_ne hhh
            have hq2 : (hl.toList != head.toList) = true := by unfold bne; rw [hq]; rfl
            have HD3 : Hid (DD = (all, 390)) := by show _ = _; rw [HD2.out, if_neg (fun h => hhh h.2.1)]
            clear hhh
            refine wp_region_puts2 (R := fun qi w' v => v = [Value.slice (some ⟨b, o, none⟩) L C, .int .i64 (L : Int), .bool false, .bool false, .pointer (some ⟨q, 0, none⟩), .pointer (some ⟨q, 0, none⟩), .pointer (some ⟨q, 0, none⟩), .slice ao n cp, .int .i64 (n : Int), .pointer (some ⟨q, 0, none⟩), .pointer (some ⟨q, 0, none⟩), .pointer (some ⟨q, 0, none⟩), .slice ao n cp, .string hd, .slice (some ⟨b, o, none⟩) L C, .bool true, .bool false, .bool false, .bool false, .slice (some ⟨b, o, none⟩) L C, .string hl, .string head, .bool true, .bool true].getD qi undef)
              (by kernel_rfl) (by kernel_rfl) (by kernel_rfl) ?hRR (by kernel_rfl) (steps_of ?hs) ?hd
            case hRR =>
              intro qi w1 w2 v hb hv
              exact hv
            case hs =>
              refine ⟨?_, ?_, ?_, ?_, ?_, ?_, ?_, ?_, ?_, ?_, ?_, ?_, ?_, ?_, ?_, ?_, ?_, ?_, ?_, ?_, ?_, ?_, ?_, ?_, trivial⟩
              · refine stepOk_value rfl fun a w5 ht => ?_
                have e2 : a.tmps[2]?.getD undef = .slice (some ⟨b, o, none⟩) L C := ht.old' 2 (.slice (some ⟨b, o, none⟩) L C) (by kernel_rfl) rfl
                exact ⟨Value.slice (some ⟨b, o, none⟩) L C, w5, by go_simp, Below.refl _ _, rfl⟩
              · refine stepOk_value rfl fun a w5 ht => ?_
                have e37 : a.tmps[37]?.getD undef = Value.slice (some ⟨b, o, none⟩) L C := ht.dep' 0 37 (by kernel_rfl) rfl
                exact ⟨.int .i64 (L : Int), w5, by go_simp, Below.refl _ _, rfl⟩
              · refine stepOk_value rfl fun a w5 ht => ?_
                have e38 : a.tmps[38]?.getD undef = .int .i64 (L : Int) := ht.dep' 1 38 (by kernel_rfl) rfl
                exact ⟨.bool false, w5, by go_simp, Below.refl _ _, rfl⟩
              · refine stepOk_value rfl fun a w5 ht => ?_
                have e39 : a.tmps[39]?.getD undef = .bool false := ht.dep' 2 39 (by kernel_rfl) rfl
                exact ⟨.bool false, w5, by go_simp, Below.refl _ _, rfl⟩
              · refine stepOk_value_guarded 3 40 false rfl (by kernel_rfl) rfl (Nat.le_of_ble_eq_true rfl) (fun w v h => h) fun a w5 ht => ?_
                have e0 : a.tmps[0]?.getD undef = .pointer (some ⟨q, 0, none⟩) := ht.old' 0 (.pointer (some ⟨q, 0, none⟩)) (by kernel_rfl) rfl
                exact ⟨.pointer (some ⟨q, 0, none⟩), w5, by go_simp, Below.refl _ _, rfl⟩
              · refine stepOk_value_guarded 3 40 false rfl (by kernel_rfl) rfl (Nat.le_of_ble_eq_true rfl) (fun w v h => h) fun a w5 ht => ?_
                have e41 : a.tmps[41]?.getD undef = .pointer (some ⟨q, 0, none⟩) := ht.dep' 4 41 (by kernel_rfl) rfl
                exact ⟨.pointer (some ⟨q, 0, none⟩), w5, by go_simp, Below.refl _ _, rfl⟩
              · refine stepOk_value_guarded 3 40 false rfl (by kernel_rfl) rfl (Nat.le_of_ble_eq_true rfl) (fun w v h => h) fun a w5 ht => ?_
                have e42 : a.tmps[42]?.getD undef = .pointer (some ⟨q, 0, none⟩) := ht.dep' 5 42 (by kernel_rfl) rfl
                exact ⟨.pointer (some ⟨q, 0, none⟩), w5, by go_simp, Below.refl _ _, rfl⟩
              · refine stepOk_value_guarded 3 40 false rfl (by kernel_rfl) rfl (Nat.le_of_ble_eq_true rfl) (fun w v h => h) fun a w5 ht => ?_
                have e43 : a.tmps[43]?.getD undef = .pointer (some ⟨q, 0, none⟩) := ht.dep' 6 43 (by kernel_rfl) rfl
                have hc0 := (ht.below.cell (p := ⟨q, 0, none⟩) (World.block_lt_of_cell? _ _ hcq)).trans hcq
                exact ⟨.slice ao n cp, w5, by go_simp, Below.refl _ _, rfl⟩
              · refine stepOk_value_guarded 3 40 false rfl (by kernel_rfl) rfl (Nat.le_of_ble_eq_true rfl) (fun w v h => h) fun a w5 ht => ?_
                have e44 : a.tmps[44]?.getD undef = .slice ao n cp := ht.dep' 7 44 (by kernel_rfl) rfl
                exact ⟨.int .i64 (n : Int), w5, by go_simp, Below.refl _ _, rfl⟩
              · refine stepOk_value_guarded 3 40 false rfl (by kernel_rfl) rfl (Nat.le_of_ble_eq_true rfl) (fun w v h => h) fun a w5 ht => ?_
                have e0 : a.tmps[0]?.getD undef = .pointer (some ⟨q, 0, none⟩) := ht.old' 0 (.pointer (some ⟨q, 0, none⟩)) (by kernel_rfl) rfl
                exact ⟨.pointer (some ⟨q, 0, none⟩), w5, by go_simp, Below.refl _ _, rfl⟩
              · refine stepOk_value_guarded 3 40 false rfl (by kernel_rfl) rfl (Nat.le_of_ble_eq_true rfl) (fun w v h => h) fun a w5 ht => ?_
                have e46 : a.tmps[46]?.getD undef = .pointer (some ⟨q, 0, none⟩) := ht.dep' 9 46 (by kernel_rfl) rfl
                exact ⟨.pointer (some ⟨q, 0, none⟩), w5, by go_simp, Below.refl _ _, rfl⟩
              · refine stepOk_value_guarded 3 40 false rfl (by kernel_rfl) rfl (Nat.le_of_ble_eq_true rfl) (fun w v h => h) fun a w5 ht => ?_
                have e47 : a.tmps[47]?.getD undef = .pointer (some ⟨q, 0, none⟩) := ht.dep' 10 47 (by kernel_rfl) rfl
                exact ⟨.pointer (some ⟨q, 0, none⟩), w5, by go_simp, Below.refl _ _, rfl⟩
              · refine stepOk_value_guarded 3 40 false rfl (by kernel_rfl) rfl (Nat.le_of_ble_eq_true rfl) (fun w v h => h) fun a w5 ht => ?_
                have e48 : a.tmps[48]?.getD undef = .pointer (some ⟨q, 0, none⟩) := ht.dep' 11 48 (by kernel_rfl) rfl
                have hc0 := (ht.below.cell (p := ⟨q, 0, none⟩) (World.block_lt_of_cell? _ _ hcq)).trans hcq
                exact ⟨.slice ao n cp, w5, by go_simp, Below.refl _ _, rfl⟩
              · refine stepOk_call_guarded 3 40 false rfl (by kernel_rfl) rfl (Nat.le_of_ble_eq_true rfl) (fun w v h => h) fun a w5 ht => ?_
                have e49 : a.tmps[49]?.getD undef = .slice ao n cp := ht.dep' 12 49 (by kernel_rfl) rfl
                refine ⟨46, #[.slice ao n cp], by go_simp, (CHD.out w5 ht.below).mono ?_⟩
                rintro e w' ⟨rfl, hb⟩
                exact ⟨_, rfl, hb, rfl⟩
              · refine stepOk_value_guarded 3 40 false rfl (by kernel_rfl) rfl (Nat.le_of_ble_eq_true rfl) (fun w v h => h) fun a w5 ht => ?_
                have e2 : a.tmps[2]?.getD undef = .slice (some ⟨b, o, none⟩) L C := ht.old' 2 (.slice (some ⟨b, o, none⟩) L C) (by kernel_rfl) rfl
                exact ⟨.slice (some ⟨b, o, none⟩) L C, w5, by go_simp, Below.refl _ _, rfl⟩
              · refine stepOk_call_guarded 3 40 false rfl (by kernel_rfl) rfl (Nat.le_of_ble_eq_true rfl) (fun w v h => h) fun a w5 ht => ?_
                have e45 : a.tmps[45]?.getD undef = .int .i64 (n : Int) := ht.dep' 8 45 (by kernel_rfl) rfl
                have e50 : a.tmps[50]?.getD undef = .string hd := ht.dep' 13 50 (by kernel_rfl) rfl
                have e51 : a.tmps[51]?.getD undef = .slice (some ⟨b, o, none⟩) L C := ht.dep' 14 51 (by kernel_rfl) rfl
                refine ⟨72, #[.int .i64 (n : Int), .string hd, .slice (some ⟨b, o, none⟩) L C], by go_simp, (CGO.out w5 ht.below).mono ?_⟩
                rintro e w' ⟨rfl, hb⟩
                exact ⟨_, rfl, hb, rfl⟩
              · refine stepOk_value_guarded 3 40 false rfl (by kernel_rfl) rfl (Nat.le_of_ble_eq_true rfl) (fun w v h => h) fun a w5 ht => ?_
                have e52 : a.tmps[52]?.getD undef = .bool true := ht.dep' 15 52 (by kernel_rfl) rfl
                exact ⟨.bool false, w5, by go_simp, Below.refl _ _, rfl⟩
              · refine stepOk_value rfl fun a w5 ht => ?_
                have e40 : a.tmps[40]?.getD undef = .bool false := ht.dep' 3 40 (by kernel_rfl) rfl
                have e53 : a.tmps[53]?.getD undef = .bool false := ht.dep' 16 53 (by kernel_rfl) rfl
                exact ⟨.bool false, w5, by go_simp, Below.refl _ _, rfl⟩
              · refine stepOk_value rfl fun a w5 ht => ?_
                have e54 : a.tmps[54]?.getD undef = .bool false := ht.dep' 17 54 (by kernel_rfl) rfl
                exact ⟨.bool false, w5, by go_simp, Below.refl _ _, rfl⟩
              · refine stepOk_value_guarded 18 55 false rfl (by kernel_rfl) rfl (Nat.le_of_ble_eq_true rfl) (fun w v h => h) fun a w5 ht => ?_
                have e2 : a.tmps[2]?.getD undef = .slice (some ⟨b, o, none⟩) L C := ht.old' 2 (.slice (some ⟨b, o, none⟩) L C) (by kernel_rfl) rfl
                exact ⟨.slice (some ⟨b, o, none⟩) L C, w5, by go_simp, Below.refl _ _, rfl⟩
              · refine stepOk_call_guarded 18 55 false rfl (by kernel_rfl) rfl (Nat.le_of_ble_eq_true rfl) (fun w v h => h) fun a w5 ht => ?_
                have e56 : a.tmps[56]?.getD undef = .slice (some ⟨b, o, none⟩) L C := ht.dep' 19 56 (by kernel_rfl) rfl
                refine ⟨46, #[.slice (some ⟨b, o, none⟩) L C], by go_simp, (CHL.out w5 ht.below).mono ?_⟩
                rintro e w' ⟨rfl, hb⟩
                exact ⟨_, rfl, hb, rfl⟩
              · refine stepOk_value_guarded 18 55 false rfl (by kernel_rfl) rfl (Nat.le_of_ble_eq_true rfl) (fun w v h => h) fun a w5 ht => ?_
                have e1 : a.tmps[1]?.getD undef = .string head := ht.old' 1 (.string head) (by kernel_rfl) rfl
                exact ⟨.string head, w5, by go_simp, Below.refl _ _, rfl⟩
              · refine stepOk_value_guarded 18 55 false rfl (by kernel_rfl) rfl (Nat.le_of_ble_eq_true rfl) (fun w v h => h) fun a w5 ht => ?_
                have e57 : a.tmps[57]?.getD undef = .string hl := ht.dep' 20 57 (by kernel_rfl) rfl
                have e58 : a.tmps[58]?.getD undef = .string head := ht.dep' 21 58 (by kernel_rfl) rfl
                exact ⟨.bool true, w5, by go_simp, Below.refl _ _, rfl⟩
              · refine stepOk_value rfl fun a w5 ht => ?_
                have e55 : a.tmps[55]?.getD undef = .bool false := ht.dep' 18 55 (by kernel_rfl) rfl
                have e59 : a.tmps[59]?.getD undef = .bool true := ht.dep' 22 59 (by kernel_rfl) rfl
                exact ⟨.bool true, w5, by go_simp, Below.refl _ _, rfl⟩
            case hd =>
              intro vs w8 hl hb8 hvs
              have hl : vs.length = 24 := hl
              obtain ⟨v0, r0, rfl, l0⟩ := uncons vs hl
              obtain ⟨v1, r1, rfl, l1⟩ := uncons r0 l0
              obtain ⟨v2, r2, rfl, l2⟩ := uncons r1 l1
              obtain ⟨v3, r3, rfl, l3⟩ := uncons r2 l2
              obtain ⟨v4, r4, rfl, l4⟩ := uncons r3 l3
              obtain ⟨v5, r5, rfl, l5⟩ := uncons r4 l4
              obtain ⟨v6, r6, rfl, l6⟩ := uncons r5 l5
              obtain ⟨v7, r7, rfl, l7⟩ := uncons r6 l6
              obtain ⟨v8, r8, rfl, l8⟩ := uncons r7 l7
              obtain ⟨v9, r9, rfl, l9⟩ := uncons r8 l8
              obtain ⟨v10, r10, rfl, l10⟩ := uncons r9 l9
              obtain ⟨v11, r11, rfl, l11⟩ := uncons r10 l10
              obtain ⟨v12, r12, rfl, l12⟩ := uncons r11 l11
              obtain ⟨v13, r13, rfl, l13⟩ := uncons r12 l12
              obtain ⟨v14, r14, rfl, l14⟩ := uncons r13 l13
              obtain ⟨v15, r15, rfl, l15⟩ := uncons r14 l14
              obtain ⟨v16, r16, rfl, l16⟩ := uncons r15 l15
              obtain ⟨v17, r17, rfl, l17⟩ := uncons r16 l16
              obtain ⟨v18, r18, rfl, l18⟩ := uncons r17 l17
              obtain ⟨v19, r19, rfl, l19⟩ := uncons r18 l18
              obtain ⟨v20, r20, rfl, l20⟩ := uncons r19 l19
              obtain ⟨v21, r21, rfl, l21⟩ := uncons r20 l20
              obtain ⟨v22, r22, rfl, l22⟩ := uncons r21 l21
              obtain ⟨v23, r23, rfl, l23⟩ := uncons r22 l22
              obtain rfl := List.eq_nil_of_length_eq_zero l23
              have h23 : v23 = .bool true := hvs 23 (by decide)
              subst h23
              clear hvs
              simp only [puts, List.map, go_sem, List.setIfInBounds_toArray, List.set_cons_succ, List.set_cons_zero]
              have HB8 : Hid (Below w.heap.size w w8) := HBE1.out.trans (hb8.mono HBE1.out.size)
              clear hb8
              go_wp2_with fail
              go_ret
              rw [HD3.out]
              exact refOut_same 390 HR.out HB8.out
end Go.Proofs.Ytbajgpbekanodaa
