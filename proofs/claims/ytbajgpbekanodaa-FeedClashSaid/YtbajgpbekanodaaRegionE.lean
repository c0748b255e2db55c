/- The law of RegionD with a tail: the first operations in any order, each by its own contract; the last ones, which wait for all of those, in the text's order. -/
import Derived.Test.YtbajgpbekanodaaRegionD
import Derived.StillTail
namespace Go.Proofs.Ytbajgpbekanodaa
open Go.RowKit

variable {P : Program} {ops : Array Oper}

structure TailInv (ops : Array Oper) (N : Nat) (R : Nat → World → Value → Prop) (a0 : Act) (w0 : World) (listed : Array Bool) (a : Act) (w : World) : Prop where
  head : HeadInv .any ops N listed
  below : Below w0.heap.size w0 w
  size : a.tmps.size = a0.tmps.size
  defers : a.defers = a0.defers
  same : ∀ t, (∀ (i : Nat) (o : Oper), i < N → ops[i]? = some o → o.dst ≠ some t) → a.tmps.getD t undef = a0.tmps.getD t undef
  met : ∀ j, j < N → listed.getD j false = true → Met ops R j a w

theorem filter_take_set (N : Nat) : ∀ (l : List Bool) (k : Nat) (hk : k < l.length), k < N → l[k] = false → (((l.set k true).take N).filter (!·)).length + 1 = ((l.take N).filter (!·)).length := by
  induction N with
  | zero => intro l k _ h _; omega
  | succ N ih =>
    intro l k hk hN hb
    cases l with
    | nil => simp at hk
    | cons b l =>
      cases k with
      | zero =>
        simp only [List.getElem_cons_zero] at hb
        subst hb
        simp
      | succ k =>
        simp only [List.getElem_cons_succ] at hb
        have := ih l k (by simpa using hk) (by omega) hb
        rw [List.set_cons_succ, List.take_succ_cons, List.take_succ_cons]
        cases b with
        | true => simpa using this
        | false => simp only [List.filter_cons, Bool.not_false, if_true, List.length_cons]; omega

theorem key_puts {N : Nat} {a0 a : Act} (hs : a.tmps.size = a0.tmps.size) (hd : a.defers = a0.defers)
    (hsame : ∀ t, (∀ (i : Nat) (o : Oper), i < N → ops[i]? = some o → o.dst ≠ some t) → a.tmps.getD t undef = a0.tmps.getD t undef) :
    a = puts ((ops.toList.take N).map (·.dst)) ((ops.toList.take N).map fun o => match o.dst with | some d => a.tmps.getD d undef | none => undef) a0 := by
  have e2 : a.tmps = (puts ((ops.toList.take N).map (·.dst)) ((ops.toList.take N).map fun o => match o.dst with | some d => a.tmps.getD d undef | none => undef) a0).tmps := by
    apply Array.ext
    · rw [puts_size]; exact hs
    · intro t ht1 ht2
      have hp := puts_get t (a.tmps.getD t undef) ((ops.toList.take N).map (·.dst)) ((ops.toList.take N).map fun o => match o.dst with | some d => a.tmps.getD d undef | none => undef) a0 (by simp) (by rw [← hs]; exact ht1) ?_ ?_
      · rw [Array.getD_eq_getD_getElem?, Array.getElem?_eq_getElem ht2, Option.getD_some] at hp
        rw [hp, Array.getD_eq_getD_getElem?, Array.getElem?_eq_getElem ht1, Option.getD_some]
      · intro j hj hd
        simp only [List.length_map, List.length_take, Array.length_toList] at hj
        have hjo : j < ops.size := by omega
        have hjN : j < N := by omega
        simp only [List.getElem?_map, List.getElem?_take_of_lt hjN, Array.getElem?_toList, Array.getElem?_eq_getElem hjo, Option.map_some, Option.some.injEq] at hd
        simp [List.getD, hjo, hjN, hd]
      · by_cases h : ∃ j, j < N ∧ j < ops.size ∧ (ops[j]?.map (·.dst)) = some (some t)
        · obtain ⟨j, hjN, hj, hjd⟩ := h
          refine .inl ⟨j, by simp; omega, ?_⟩
          simpa [hjN] using hjd
        · right
          symm
          refine hsame t fun i o hi ho hd => h ⟨i, hi, (Array.getElem?_eq_some_iff.1 ho).1, ?_⟩
          rw [ho]; simp [hd]
  have e1 : a.defers = (puts ((ops.toList.take N).map (·.dst)) ((ops.toList.take N).map fun o => match o.dst with | some d => a.tmps.getD d undef | none => undef) a0).defers := by
    rw [puts_defers]; exact hd
  revert e1 e2
  generalize puts _ _ _ = b
  intro e1 e2
  cases a; cases b
  simp only at e1 e2
  rw [e1, e2]

/-- Each guard among the first ones stands among the first ones. -/
def guardIn (ops : Array Oper) (N : Nat) : Bool := ops.all fun o => match o.guard with
  | some (j, _) => decide (j < N)
  | none => true
/-- The first operations. -/
def pre (ops : Array Oper) (N : Nat) : Array Oper := (ops.toList.take N).toArray
theorem pre_get {N i : Nat} (h : i < N) : (pre ops N)[i]? = ops[i]? := by
  unfold pre
  simp [h]
theorem pre_lt {N i : Nat} {o : Oper} (h : (pre ops N)[i]? = some o) : i < N := by
  have := (Array.getElem?_eq_some_iff.1 h).1
  unfold pre at this
  simp at this
  omega
theorem wanted_pre {N : Nat} (hg : guardIn (pre ops N) N = true) {i : Nat} {o : Oper} (hi : i < N) (ho : ops[i]? = some o) (a : Act) : Region.wanted o (yielded (pre ops N) a.tmps) = Region.wanted o (yielded ops a.tmps) := by
  have h1 : (pre ops N)[i]? = some o := by rw [pre_get hi]; exact ho
  obtain ⟨hl, h2⟩ := Array.getElem?_eq_some_iff.1 h1
  have h3 := Array.all_eq_true.1 hg i hl
  rw [h2] at h3
  cases hgd : o.guard with
  | none => simp [Region.wanted, hgd]
  | some g =>
    obtain ⟨j, b⟩ := g
    rw [hgd] at h3
    have hj : j < N := by simpa using h3
    simp only [Region.wanted, hgd, yielded, pre_get hj]

/-- THE LAW. -/
theorem wp_region_tail (N : Nat) {R : Nat → World → Value → Prop} {id : Nat} {Q : Exit → Act → World → Prop} {a0 : Act} {w0 : World} (hm : P.follows .mixedOrders = true) (hok : localOk2 ops = true) (hall : allDst (pre ops N) = true)
    (hN : N < ops.size) (hgd : guardIn (pre ops N) N = true) (hs : Region.sinkB .any ops N = true) (hc : Region.chainB .any ops N = true)
    (hseq : Region.seqB .any ops (ops.size - N) N (Array.replicate N true ++ Array.replicate (ops.size - N) false) = true)
    (hR : ∀ i w w' v, Below w.heap.size w w' → R i w v → R i w' v)
    (hsz : dstBelow ops a0.tmps.size = true)
    (hstep : ∀ (i : Nat) (o : Oper), (pre ops N)[i]? = some o → StepOk P (pre ops N) R Q a0 w0 i o)
    (hdone : ∀ (vs : List Value) w, vs.length = N → Below w0.heap.size w0 w → (∀ j, j < N → R j w (vs.getD j undef)) → wpList P ops Q (ops.toList.drop N) (puts ((ops.toList.take N).map (·.dst)) vs a0) w) :
    (Code.region id ops true).wp P Q a0 w0 := by
  refine wp_region_any hm ?_
  have hds : ∀ (j : Nat) (o : Oper), j < N → ops[j]? = some o → ∃ d, o.dst = some d := by
    intro j o hjN ho
    have ho2 : (pre ops N)[j]? = some o := by rw [pre_get hjN]; exact ho
    have := List.all_eq_true.1 hall o (by
      obtain ⟨hj, rfl⟩ := Array.getElem?_eq_some_iff.1 ho2
      exact Array.getElem_mem_toList hj)
    exact Option.isSome_iff_exists.1 this
  have main : ∀ (c : Nat) (listed : Array Bool) (a : Act) (w : World), TailInv ops N R a0 w0 listed a w → ((listed.toList.take N).filter (!·)).length = c → wpAny P .any ops Q (c + (ops.size - N)) listed a w := by
    intro c
    induction c with
    | zero =>
      intro listed a w inv hcnt
      have hlt : ∀ j, j < N → listed.getD j false = true := by
        intro j hj
        have hjl : j < listed.size := by rw [inv.head.size]; omega
        cases hb : listed[j] with
        | true => simp [hjl, hb]
        | false =>
          have hmem : false ∈ (listed.toList.take N).filter (!·) := by
            refine List.mem_filter.2 ⟨?_, rfl⟩
            rw [← hb]
            refine List.mem_take_iff_getElem.2 ⟨j, by rw [Array.length_toList]; omega, by simp⟩
          have := List.length_pos_of_mem hmem
          omega
      have hl0 : listed = Array.replicate N true ++ Array.replicate (ops.size - N) false := by
        apply Array.ext
        · rw [inv.head.size]; simp; omega
        · intro i h1 h2
          by_cases hi : i < N
          · have := hlt i hi
            simp only [Array.getD_eq_getD_getElem?, Array.getElem?_eq_getElem h1, Option.getD_some] at this
            rw [this, Array.getElem_append_left (by simpa using hi)]
            simp
          · have := inv.head.tail i (by omega) (by rw [← inv.head.size]; exact h1)
            simp only [Array.getD_eq_getD_getElem?, Array.getElem?_eq_getElem h1, Option.getD_some] at this
            rw [this, Array.getElem_append_right (by simpa using hi)]
            simp
      have hlen : (ops.toList.drop N).length = ops.size - N := by simp
      rw [Nat.zero_add, ← hlen]
      refine wpAny_of_seq (ops.toList.drop N) N listed a w (fun j => by simp) (by rw [hlen, hl0]; exact hseq) ?_
      have key := key_puts (N := N) inv.size inv.defers inv.same
      rw [key]
      refine hdone _ w (by simp; omega) inv.below fun j hj => ?_
      obtain ⟨d, hd'⟩ := hds j (ops[j]'(by omega)) hj (Array.getElem?_eq_getElem (by omega))
      have := inv.met j hj (hlt j hj) (ops[j]'(by omega)) d (Array.getElem?_eq_getElem (by omega)) hd'
      have hjo : j < ops.size := by omega
      simpa [List.getD, hj, hjo, hd'] using this
    | succ c ih =>
      intro listed a w inv hcnt
      have hex : ∃ i, i < N ∧ listed.getD i true = false := by
        have hpos : 0 < ((listed.toList.take N).filter (!·)).length := by omega
        obtain ⟨b, hb⟩ := List.exists_mem_of_length_pos hpos
        obtain ⟨hb1, hb2⟩ := List.mem_filter.1 hb
        have hbf : b = false := by simpa using hb2
        subst hbf
        obtain ⟨i, hi, hbi⟩ := List.mem_take_iff_getElem.1 hb1
        simp at hi
        refine ⟨i, by omega, ?_⟩
        have h1 : i < listed.size := by omega
        rw [Array.getD_eq_getD_getElem?, Array.getElem?_eq_getElem h1]
        simpa using hbi
      have hne : Region.ready .any ops listed ≠ [] := by
        intro hr
        have hall2 : ∀ n j, j < n → j < N → listed.getD j false = true := by
          intro n
          induction n with
          | zero => intro j hj; omega
          | succ n ih2 =>
            intro j hj hjN
            by_cases hlt : j < n
            · exact ih2 j hlt hjN
            · have hjn : j = n := by omega
              subst hjn
              apply Classical.byContradiction
              intro hno
              have hjo : j < ops.size := by omega
              have hno' : listed.getD j true = false := by
                have h1 : j < listed.size := by rw [inv.head.size]; omega
                simp only [Array.getD_eq_getD_getElem?, Array.getElem?_eq_getElem h1, Option.getD_some] at hno ⊢
                simpa using hno
              have hmem : j ∈ Region.ready .any ops listed := mem_ready.2 ⟨hno', ops[j], by rw [Array.getElem?_eq_getElem hjo], fun e he hbn => ih2 e.on (localOk2_after hok (Array.getElem?_eq_getElem hjo) e he hbn)
                (Nat.lt_trans (localOk2_after hok (Array.getElem?_eq_getElem hjo) e he hbn) hjN)⟩
              rw [hr] at hmem; cases hmem
        obtain ⟨i, hiN, hi⟩ := hex
        have h1 := hall2 (i + 1) i (by omega) hiN
        rw [getD_both hi] at h1
        cases h1
      rw [show c + 1 + (ops.size - N) = (c + (ops.size - N)) + 1 by omega]
      refine ⟨fun h => absurd h hne, fun i hi => ?_⟩
      obtain ⟨i0, hi0, hi0f⟩ := hex
      have hiN : i < N := by
        rcases Nat.lt_or_ge i N with h | h
        · exact h
        · exact absurd hi (tail_waits hs hc hN inv.head _ i0 rfl hi0 hi0f i h)
      obtain ⟨hno, o, ho, hal⟩ := mem_ready.1 hi
      have hil : i < listed.size := by rw [inv.head.size]; exact (Array.getElem?_eq_some_iff.1 ho).1
      have hst := hstep i o (by rw [pre_get hiN]; exact ho) a w inv.below inv.size (fun t ht => inv.same t fun j oj hj hoj => ht j oj (by rw [pre_get hj]; exact hoj))
        (fun e he hb => by
          have hlt := Nat.lt_trans (localOk2_after hok ho e he hb) hiN
          have hmt := inv.met e.on hlt (hal e he hb)
          intro oj d hoj hd
          rw [pre_get hlt] at hoj
          exact hmt oj d hoj hd)
      rw [wanted_pre hgd hiN ho] at hst
      have next : ∀ (v : Value) (w' : World), Below w.heap.size w w' → R i w' v → wpAny P .any ops Q (c + (ops.size - N)) (listed.setIfInBounds i true) (a.put o.dst v) w' := by
        intro v w' hb hv
        have hmono : Below w0.heap.size w0 w' := inv.below.trans (hb.mono (by have := inv.below.size; omega))
        refine ih _ _ _ ⟨inv.head.set hi hiN, hmono, by rw [size_put]; exact inv.size, by rw [defers_put]; exact inv.defers, fun t ht => ?_, fun j hjN hj oj d hoj hd => ?_⟩ ?_
        · rw [getD_put_other _ _ _ _ (ht i o hiN ho)]; exact inv.same t ht
        · by_cases hji : j = i
          · subst hji
            rw [ho] at hoj; cases hoj
            rw [hd, getD_put_same _ _ _ (by rw [inv.size]; exact dst_lt hsz j o d ho hd)]
            exact hv
          · rw [getD_put_other _ _ _ _ (localOk2_dst hok hoj ho (Ne.symm hji) hd)]
            rw [getD_set_ne false (Ne.symm hji)] at hj
            exact hR j w w' _ hb (inv.met j hjN hj oj d hoj hd)
        · have hf : listed[i] = false := by simpa [hil] using hno
          have hset : (listed.setIfInBounds i true).toList = listed.toList.set i true := by simp
          rw [hset]
          have := filter_take_set N listed.toList i (by simpa using hil) hiN (by simpa using hf)
          omega
      unfold wpOp
      simp only [ho]
      split
      · rename_i hw
        rw [if_pos hw] at hst
        exact .inl (Oper.wp_mono (fun a' w' ⟨v, ha, hb, hv⟩ => by subst ha; exact next v w' hb hv) hst)
      · rename_i hw
        rw [if_neg hw] at hst
        exact next undef w (Below.refl _ _) hst
  have h0 : ((Array.replicate ops.size false).toList.take N).filter (!·) = List.replicate N false := by
    simp [List.take_replicate, Nat.min_eq_left (Nat.le_of_lt hN)]
  have hfin := main N (Array.replicate ops.size false) a0 { w0 with drawn := w0.drawn + 1 } ⟨⟨by simp, fun j oj _ hj => (by rw [getD_replicate_false] at hj; cases hj), fun t _ ht => (by simp [ht])⟩, ⟨rfl, rfl, rfl, Nat.le_refl _, fun _ _ => rfl⟩, rfl, rfl, fun _ _ => rfl, fun j _ hj => (by rw [getD_replicate_false] at hj; cases hj)⟩ (by rw [h0]; simp)
  have e : N + (ops.size - N) = ops.size := by omega
  rw [e] at hfin
  exact hfin

end Go.Proofs.Ytbajgpbekanodaa
