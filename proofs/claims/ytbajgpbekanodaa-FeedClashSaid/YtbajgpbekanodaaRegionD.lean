/- The law of XRegion and XRegionB where an operation may wait for a later one on a ground that does not bind when any order may be drawn. -/
import Derived.Test.YtbajgpbekanodaaRegionC
namespace Go.Proofs.Ytbajgpbekanodaa
open Go.RowKit

variable {P : Program} {ops : Array Oper}

/-- Each operation waits for earlier ones alone; each slot is written once. -/
def localOk2 (ops : Array Oper) : Bool :=
  (List.range ops.size).all fun i =>
    match ops[i]? with
    | some o => o.after.all (fun e => !Region.binds .any e || decide (e.on < i)) && (List.range ops.size).all fun j => j == i || match ops[j]? with
      | some oj => match o.dst with
        | some d => oj.dst != some d
        | none => true
      | none => true
    | none => true

theorem localOk2_after (h : localOk2 ops = true) {i : Nat} {o : Oper} (hi : ops[i]? = some o) : ∀ e ∈ o.after, Region.binds .any e = true → e.on < i := by
  have hlt : i < ops.size := (Array.getElem?_eq_some_iff.1 hi).1
  have h1 := List.all_eq_true.1 h i (by simpa using hlt)
  simp only [hi, Bool.and_eq_true] at h1
  intro e he hb
  have h2 := Array.all_eq_true_iff_forall_mem.1 h1.1 e he
  simpa [hb] using h2
theorem localOk2_dst (h : localOk2 ops = true) {i j : Nat} {o oj : Oper} (hi : ops[i]? = some o) (hj : ops[j]? = some oj) (hne : j ≠ i) {d : Tmp} (hd : o.dst = some d) : oj.dst ≠ some d := by
  have hlt : i < ops.size := (Array.getElem?_eq_some_iff.1 hi).1
  have hltj : j < ops.size := (Array.getElem?_eq_some_iff.1 hj).1
  have h1 := List.all_eq_true.1 h i (by simpa using hlt)
  simp only [hi, Bool.and_eq_true] at h1
  have h2 := List.all_eq_true.1 h1.2 j (by simpa using hltj)
  simpa [hj, hd, hne] using h2

theorem local_any2 {R : Nat → World → Value → Prop} {Q : Exit → Act → World → Prop} {a0 : Act} {w0 : World} (hok : localOk2 ops = true)
    (hR : ∀ i w w' v, Below w.heap.size w w' → R i w v → R i w' v)
    (hsz : ∀ (i : Nat) (o : Oper) (d : Tmp), ops[i]? = some o → o.dst = some d → d < a0.tmps.size)
    (hstep : ∀ (i : Nat) (o : Oper), ops[i]? = some o → StepOk P ops R Q a0 w0 i o)
    (hdone : ∀ a w, Below w0.heap.size w0 w → a.tmps.size = a0.tmps.size → a.defers = a0.defers → (∀ t, NotDst ops t → a.tmps.getD t undef = a0.tmps.getD t undef) → (∀ j, Met ops R j a w) → Q .normal a w) :
    ∀ (fuel : Nat) (listed : Array Bool) (a : Act) (w : World), listed.size = ops.size → LocalInv ops R a0 w0 listed a w → (listed.toList.filter (!·)).length ≤ fuel →
      wpAny P .any ops Q fuel listed a w := by
  have fin : ∀ (listed : Array Bool) (a : Act) (w : World), listed.size = ops.size → LocalInv ops R a0 w0 listed a w → Region.ready .any ops listed = [] → Q .normal a w := by
    intro listed a w hls hinv hr
    have hall : ∀ n j, j < n → j < ops.size → listed.getD j false = true := by
      intro n
      induction n with
      | zero => intro j hj; omega
      | succ n ih =>
        intro j hj hjo
        by_cases hlt : j < n
        · exact ih j hlt hjo
        · have hjn : j = n := by omega
          subst hjn
          apply Classical.byContradiction
          intro hno
          have hno' : listed.getD j true = false := by
            have h1 : j < listed.size := by omega
            simp only [Array.getD_eq_getD_getElem?, Array.getElem?_eq_getElem h1, Option.getD_some] at hno ⊢
            simpa using hno
          have hmem : j ∈ Region.ready .any ops listed := mem_ready.2 ⟨hno', ops[j], by rw [Array.getElem?_eq_getElem hjo], fun e he hbn => ih e.on (localOk2_after hok (Array.getElem?_eq_getElem hjo) e he hbn)
            (Nat.lt_trans (localOk2_after hok (Array.getElem?_eq_getElem hjo) e he hbn) hjo)⟩
          rw [hr] at hmem; cases hmem
    refine hdone a w hinv.below hinv.size hinv.defers hinv.same fun j => ?_
    by_cases hj : j < ops.size
    · exact hinv.met j (hall ops.size j hj hj)
    · intro o d ho; rw [Array.getElem?_eq_none (by omega)] at ho; cases ho
  intro fuel
  induction fuel with
  | zero =>
    intro listed a w hls hinv hlen
    have hr : Region.ready .any ops listed = [] := by
      apply List.eq_nil_iff_forall_not_mem.2
      intro j hj
      obtain ⟨hno, o, ho, _⟩ := mem_ready.1 hj
      have hjl : j < listed.size := by rw [hls]; exact (Array.getElem?_eq_some_iff.1 ho).1
      have hf : listed[j] = false := by simpa [hjl] using hno
      have : false ∈ listed.toList.filter (!·) := List.mem_filter.2 ⟨by rw [← hf]; exact Array.getElem_mem_toList hjl, rfl⟩
      have := List.length_pos_of_mem this
      omega
    exact ⟨hr, fin listed a w hls hinv hr⟩
  | succ fuel ih =>
    intro listed a w hls hinv hlen
    refine ⟨fin listed a w hls hinv, fun i hi => ?_⟩
    obtain ⟨hno, o, ho, hall⟩ := mem_ready.1 hi
    have hil : i < listed.size := by rw [hls]; exact (Array.getElem?_eq_some_iff.1 ho).1
    have hst := hstep i o ho a w hinv.below hinv.size hinv.same (fun e he hb => hinv.met e.on (hall e he hb))
    have next : ∀ (v : Value) (w' : World), Below w.heap.size w w' → R i w' v → wpAny P .any ops Q fuel (listed.setIfInBounds i true) (a.put o.dst v) w' := by
      intro v w' hb hv
      have hmono : Below w0.heap.size w0 w' := hinv.below.trans (hb.mono (by have := hinv.below.size; omega))
      refine ih _ _ _ (by simpa using hls) ⟨hmono, by rw [size_put]; exact hinv.size, by rw [defers_put]; exact hinv.defers, fun t ht => ?_, fun j hj oj d hoj hd => ?_⟩ ?_
      · rw [getD_put_other _ _ _ _ (ht i o ho)]; exact hinv.same t ht
      · by_cases hji : j = i
        · subst hji
          rw [ho] at hoj; cases hoj
          rw [hd, getD_put_same _ _ _ (by rw [hinv.size]; exact hsz j o d ho hd)]
          exact hv
        · rw [getD_put_other _ _ _ _ (localOk2_dst hok hoj ho (Ne.symm hji) hd)]
          rw [getD_set_ne false (Ne.symm hji)] at hj
          exact hR j w w' _ hb (hinv.met j hj oj d hoj hd)
      · have hf : listed[i] = false := by simpa [hil] using hno
        have hset : (listed.setIfInBounds i true).toList = listed.toList.set i true := by simp
        rw [hset]
        have hcount : ∀ (l : List Bool) (k : Nat) (hk : k < l.length), l[k] = false → ((l.set k true).filter (!·)).length + 1 = (l.filter (!·)).length := by
          intro l
          induction l with
          | nil => intro k hk; simp at hk
          | cons b l ihl =>
            intro k hk hb
            cases k with
            | zero =>
              simp only [List.getElem_cons_zero] at hb
              subst hb
              simp
            | succ k =>
              simp only [List.getElem_cons_succ] at hb
              have := ihl k (by simpa using hk) hb
              rw [List.set_cons_succ]
              cases b with
              | true => simpa using this
              | false => simp only [List.filter_cons, Bool.not_false, if_true, List.length_cons]; omega
        have := hcount listed.toList i (by simpa using hil) (by simpa using hf)
        omega
    unfold wpOp
    simp only [ho]
    split
    · rename_i hw
      rw [if_pos hw] at hst
      exact .inl (Oper.wp_mono (fun a' w' ⟨v, ha, hb, hv⟩ => by subst ha; exact next v w' hb hv) hst)
    · rename_i hw
      rw [if_neg hw] at hst
      exact next undef w (Below.refl _ _) hst

/-- THE LAW. -/
theorem wp_region_local2 {R : Nat → World → Value → Prop} {id : Nat} {Q : Exit → Act → World → Prop} {a0 : Act} {w0 : World} (hm : P.follows .mixedOrders = true) (hok : localOk2 ops = true)
    (hR : ∀ i w w' v, Below w.heap.size w w' → R i w v → R i w' v)
    (hsz : ∀ (i : Nat) (o : Oper) (d : Tmp), ops[i]? = some o → o.dst = some d → d < a0.tmps.size)
    (hstep : ∀ (i : Nat) (o : Oper), ops[i]? = some o → StepOk P ops R Q a0 w0 i o)
    (hdone : ∀ a w, Below w0.heap.size w0 w → a.tmps.size = a0.tmps.size → a.defers = a0.defers → (∀ t, NotDst ops t → a.tmps.getD t undef = a0.tmps.getD t undef) → (∀ j, Met ops R j a w) → Q .normal a w) :
    (Code.region id ops true).wp P Q a0 w0 := by
  refine wp_region_any hm ?_
  refine local_any2 hok hR hsz hstep hdone _ _ _ _ (by simp) ⟨⟨rfl, rfl, rfl, Nat.le_refl _, fun _ _ => rfl⟩, rfl, rfl, fun _ _ => rfl, fun j hj => ?_⟩ (by simp)
  by_cases h : j < ops.size <;> simp [h] at hj

/-- THE LAW, its end told. -/
theorem wp_region_puts2 {R : Nat → World → Value → Prop} {id : Nat} {Q : Exit → Act → World → Prop} {a0 : Act} {w0 : World} (hm : P.follows .mixedOrders = true) (hok : localOk2 ops = true) (hall : allDst ops = true)
    (hR : ∀ i w w' v, Below w.heap.size w w' → R i w v → R i w' v)
    (hsz : dstBelow ops a0.tmps.size = true)
    (hstep : ∀ (i : Nat) (o : Oper), ops[i]? = some o → StepOk P ops R Q a0 w0 i o)
    (hdone : ∀ (vs : List Value) w, vs.length = ops.size → Below w0.heap.size w0 w → (∀ j, j < ops.size → R j w (vs.getD j undef)) → Q .normal (puts (ops.toList.map (·.dst)) vs a0) w) :
    (Code.region id ops true).wp P Q a0 w0 := by
  refine wp_region_local2 hm hok hR (dst_lt hsz) hstep fun a w hb hs hd hsame hmet => ?_
  have hds : ∀ (j : Nat) (o : Oper), ops[j]? = some o → ∃ d, o.dst = some d := by
    intro j o ho
    have := List.all_eq_true.1 hall o (by
      obtain ⟨hj, rfl⟩ := Array.getElem?_eq_some_iff.1 ho
      exact Array.getElem_mem_toList hj)
    exact Option.isSome_iff_exists.1 this
  have key : a = puts (ops.toList.map (·.dst)) (ops.toList.map fun o => match o.dst with | some d => a.tmps.getD d undef | none => undef) a0 := by
    have e2 : a.tmps = (puts (ops.toList.map (·.dst)) (ops.toList.map fun o => match o.dst with | some d => a.tmps.getD d undef | none => undef) a0).tmps := by
      apply Array.ext
      · rw [puts_size]; exact hs
      · intro t ht1 ht2
        have hp := puts_get t (a.tmps.getD t undef) (ops.toList.map (·.dst)) (ops.toList.map fun o => match o.dst with | some d => a.tmps.getD d undef | none => undef) a0 (by simp) (by rw [← hs]; exact ht1) ?_ ?_
        · rw [Array.getD_eq_getD_getElem?, Array.getElem?_eq_getElem ht2, Option.getD_some] at hp
          rw [hp, Array.getD_eq_getD_getElem?, Array.getElem?_eq_getElem ht1, Option.getD_some]
        · intro j hj hd
          simp only [List.length_map, Array.length_toList] at hj
          simp only [List.getElem?_map, Array.getElem?_toList, Array.getElem?_eq_getElem hj, Option.map_some, Option.some.injEq] at hd
          simp [List.getD, hj, hd]
        · by_cases h : ∃ j, j < ops.size ∧ (ops[j]?.map (·.dst)) = some (some t)
          · obtain ⟨j, hj, hjd⟩ := h
            exact .inl ⟨j, by simpa using hj, by simpa using hjd⟩
          · right
            symm
            refine hsame t fun i o ho hd => h ⟨i, (Array.getElem?_eq_some_iff.1 ho).1, ?_⟩
            rw [ho]; simp [hd]
    have e1 : a.defers = (puts (ops.toList.map (·.dst)) (ops.toList.map fun o => match o.dst with | some d => a.tmps.getD d undef | none => undef) a0).defers := by
      rw [puts_defers]; exact hd
    revert e1 e2
    generalize puts _ _ _ = b
    intro e1 e2
    cases a; cases b
    simp only at e1 e2
    rw [e1, e2]
  rw [key]
  refine hdone _ w (by simp) hb fun j hj => ?_
  obtain ⟨d, hd'⟩ := hds j ops[j] (Array.getElem?_eq_getElem hj)
  have := hmet j ops[j] d (Array.getElem?_eq_getElem hj) hd'
  simpa [List.getD, hj, hd'] using this
end Go.Proofs.Ytbajgpbekanodaa
