/- A law for a region that draws its order and makes memory: each operation meets its own contract, told of the operations that it waits for; so it does not matter which order is drawn.
   What each operation yields must go on holding while new memory is made ('Below'). Conditions: every operation waits for earlier ones alone, and no two write one slot ('localOk', a closed check). -/
import Derived.Orders
import Derived.Below
namespace Go.Proofs.Ytbajgpbekanodaa
open Go.RowKit

variable {P : Program} {ops : Array Oper}

/-- Each operation waits for earlier ones alone; each slot is written once. -/
def localOk (ops : Array Oper) : Bool :=
  (List.range ops.size).all fun i =>
    match ops[i]? with
    | some o => o.after.all (fun e => decide (e.on < i)) && (List.range ops.size).all fun j => j == i || match ops[j]? with
      | some oj => match o.dst with
        | some d => oj.dst != some d
        | none => true
      | none => true
    | none => true

theorem localOk_after (h : localOk ops = true) {i : Nat} {o : Oper} (hi : ops[i]? = some o) : ∀ e ∈ o.after, e.on < i := by
  have hlt : i < ops.size := (Array.getElem?_eq_some_iff.1 hi).1
  have h1 := List.all_eq_true.1 h i (by simpa using hlt)
  simp only [hi, Bool.and_eq_true] at h1
  intro e he
  have h2 := Array.all_eq_true_iff_forall_mem.1 h1.1 e he
  simpa using h2
theorem localOk_dst (h : localOk ops = true) {i j : Nat} {o oj : Oper} (hi : ops[i]? = some o) (hj : ops[j]? = some oj) (hne : j ≠ i) {d : Tmp} (hd : o.dst = some d) : oj.dst ≠ some d := by
  have hlt : i < ops.size := (Array.getElem?_eq_some_iff.1 hi).1
  have hltj : j < ops.size := (Array.getElem?_eq_some_iff.1 hj).1
  have h1 := List.all_eq_true.1 h i (by simpa using hlt)
  simp only [hi, Bool.and_eq_true] at h1
  have h2 := List.all_eq_true.1 h1.2 j (by simpa using hltj)
  simpa [hj, hd, hne] using h2

/-- A slot that no operation of the region writes. -/
def NotDst (ops : Array Oper) (t : Tmp) : Prop := ∀ (i : Nat) (o : Oper), ops[i]? = some o → o.dst ≠ some t
/-- What operation number j has yielded meets R. -/
def Met (ops : Array Oper) (R : Nat → World → Value → Prop) (j : Nat) (a : Act) (w : World) : Prop :=
  ∀ (o : Oper) (d : Tmp), ops[j]? = some o → o.dst = some d → R j w (a.tmps.getD d undef)
/-- One operation's own contract. -/
def StepOk (P : Program) (ops : Array Oper) (R : Nat → World → Value → Prop) (Q : Exit → Act → World → Prop) (a0 : Act) (w0 : World) (i : Nat) (o : Oper) : Prop :=
  ∀ (a : Act) (w : World), Below w0.heap.size w0 w → a.tmps.size = a0.tmps.size → (∀ t, NotDst ops t → a.tmps.getD t undef = a0.tmps.getD t undef) →
    (∀ e ∈ o.after, Region.binds .any e = true → Met ops R e.on a w) →
    if Region.wanted o (yielded ops a.tmps) = true then o.wp P a w (fun a' w' => ∃ v, a' = a.put o.dst v ∧ Below w.heap.size w w' ∧ R i w' v) Q else R i w undef

theorem getD_put_same (a : Act) (d : Tmp) (v : Value) (h : d < a.tmps.size) : (a.put (some d) v).tmps.getD d undef = v := by
  simp [Act.put, h]
theorem getD_put_other (a : Act) (dst : Option Tmp) (d : Tmp) (v : Value) (h : dst ≠ some d) : (a.put dst v).tmps.getD d undef = a.tmps.getD d undef := by
  cases dst with
  | none => rfl
  | some t =>
    have hne : t ≠ d := fun e => h (by rw [e])
    simp only [Act.put, Array.getD_eq_getD_getElem?, Array.getElem?_setIfInBounds, if_neg hne]
theorem size_put (a : Act) (dst : Option Tmp) (v : Value) : (a.put dst v).tmps.size = a.tmps.size := by
  cases dst <;> simp [Act.put]
theorem defers_put (a : Act) (dst : Option Tmp) (v : Value) : (a.put dst v).defers = a.defers := by
  cases dst <;> rfl

/-- What holds between two operations, whichever have come up. -/
structure LocalInv (ops : Array Oper) (R : Nat → World → Value → Prop) (a0 : Act) (w0 : World) (listed : Array Bool) (a : Act) (w : World) : Prop where
  below : Below w0.heap.size w0 w
  size : a.tmps.size = a0.tmps.size
  defers : a.defers = a0.defers
  same : ∀ t, NotDst ops t → a.tmps.getD t undef = a0.tmps.getD t undef
  met : ∀ j, listed.getD j false = true → Met ops R j a w

theorem local_any {R : Nat → World → Value → Prop} {Q : Exit → Act → World → Prop} {a0 : Act} {w0 : World} (hok : localOk ops = true)
    (hR : ∀ i w w' v, Below w.heap.size w w' → R i w v → R i w' v)
    (hsz : ∀ (i : Nat) (o : Oper) (d : Tmp), ops[i]? = some o → o.dst = some d → d < a0.tmps.size)
    (hstep : ∀ (i : Nat) (o : Oper), ops[i]? = some o → StepOk P ops R Q a0 w0 i o)
    (hdone : ∀ a w, Below w0.heap.size w0 w → a.tmps.size = a0.tmps.size → a.defers = a0.defers → (∀ t, NotDst ops t → a.tmps.getD t undef = a0.tmps.getD t undef) → (∀ j, Met ops R j a w) → Q .normal a w) :
    ∀ (fuel : Nat) (listed : Array Bool) (a : Act) (w : World), listed.size = ops.size → LocalInv ops R a0 w0 listed a w → (listed.toList.filter (!·)).length ≤ fuel →
      wpAny P .any ops Q fuel listed a w := by
  have fin : ∀ (listed : Array Bool) (a : Act) (w : World), listed.size = ops.size → LocalInv ops R a0 w0 listed a w → Region.ready .any ops listed = [] → Q .normal a w := by
    intro listed a w hls hinv hr
    have hall : ∀ n j, j < n → j < ops.size → listed.getD j false = true := by
      intro n
      induction n with
      | zero => intro j hj; omega
      | succ n ih =>
        intro j hj hjo
        by_cases hlt : j < n
        · exact ih j hlt hjo
        · have hjn : j = n := by omega
          subst hjn
          apply Classical.byContradiction
          intro hno
          have hno' : listed.getD j true = false := by
            have h1 : j < listed.size := by omega
            simp only [Array.getD_eq_getD_getElem?, Array.getElem?_eq_getElem h1, Option.getD_some] at hno ⊢
            simpa using hno
          have hmem : j ∈ Region.ready .any ops listed := mem_ready.2 ⟨hno', ops[j], by rw [Array.getElem?_eq_getElem hjo], fun e he _ => ih e.on (localOk_after hok (Array.getElem?_eq_getElem hjo) e he)
            (Nat.lt_trans (localOk_after hok (Array.getElem?_eq_getElem hjo) e he) hjo)⟩
          rw [hr] at hmem; cases hmem
    refine hdone a w hinv.below hinv.size hinv.defers hinv.same fun j => ?_
    by_cases hj : j < ops.size
    · exact hinv.met j (hall ops.size j hj hj)
    · intro o d ho; rw [Array.getElem?_eq_none (by omega)] at ho; cases ho
  intro fuel
  induction fuel with
  | zero =>
    intro listed a w hls hinv hlen
    have hr : Region.ready .any ops listed = [] := by
      apply List.eq_nil_iff_forall_not_mem.2
      intro j hj
      obtain ⟨hno, o, ho, _⟩ := mem_ready.1 hj
      have hjl : j < listed.size := by rw [hls]; exact (Array.getElem?_eq_some_iff.1 ho).1
      have hf : listed[j] = false := by simpa [hjl] using hno
      have : false ∈ listed.toList.filter (!·) := List.mem_filter.2 ⟨by rw [← hf]; exact Array.getElem_mem_toList hjl, rfl⟩
      have := List.length_pos_of_mem this
      omega
    exact ⟨hr, fin listed a w hls hinv hr⟩
  | succ fuel ih =>
    intro listed a w hls hinv hlen
    refine ⟨fin listed a w hls hinv, fun i hi => ?_⟩
    obtain ⟨hno, o, ho, hall⟩ := mem_ready.1 hi
    have hil : i < listed.size := by rw [hls]; exact (Array.getElem?_eq_some_iff.1 ho).1
    have hst := hstep i o ho a w hinv.below hinv.size hinv.same (fun e he hb => hinv.met e.on (hall e he hb))
    have next : ∀ (v : Value) (w' : World), Below w.heap.size w w' → R i w' v → wpAny P .any ops Q fuel (listed.setIfInBounds i true) (a.put o.dst v) w' := by
      intro v w' hb hv
      have hmono : Below w0.heap.size w0 w' := hinv.below.trans (hb.mono (by have := hinv.below.size; omega))
      refine ih _ _ _ (by simpa using hls) ⟨hmono, by rw [size_put]; exact hinv.size, by rw [defers_put]; exact hinv.defers, fun t ht => ?_, fun j hj oj d hoj hd => ?_⟩ ?_
      · rw [getD_put_other _ _ _ _ (ht i o ho)]; exact hinv.same t ht
      · by_cases hji : j = i
        · subst hji
          rw [ho] at hoj; cases hoj
          rw [hd, getD_put_same _ _ _ (by rw [hinv.size]; exact hsz j o d ho hd)]
          exact hv
        · rw [getD_put_other _ _ _ _ (localOk_dst hok hoj ho (Ne.symm hji) hd)]
          rw [getD_set_ne false (Ne.symm hji)] at hj
          exact hR j w w' _ hb (hinv.met j hj oj d hoj hd)
      · have hf : listed[i] = false := by simpa [hil] using hno
        have hset : (listed.setIfInBounds i true).toList = listed.toList.set i true := by simp
        rw [hset]
        have hcount : ∀ (l : List Bool) (k : Nat) (hk : k < l.length), l[k] = false → ((l.set k true).filter (!·)).length + 1 = (l.filter (!·)).length := by
          intro l
          induction l with
          | nil => intro k hk; simp at hk
          | cons b l ihl =>
            intro k hk hb
            cases k with
            | zero =>
              simp only [List.getElem_cons_zero] at hb
              subst hb
              simp
            | succ k =>
              simp only [List.getElem_cons_succ] at hb
              have := ihl k (by simpa using hk) hb
              rw [List.set_cons_succ]
              cases b with
              | true => simpa using this
              | false => simp only [List.filter_cons, Bool.not_false, if_true, List.length_cons]; omega
        have := hcount listed.toList i (by simpa using hil) (by simpa using hf)
        omega
    unfold wpOp
    simp only [ho]
    split
    · rename_i hw
      rw [if_pos hw] at hst
      exact .inl (Oper.wp_mono (fun a' w' ⟨v, ha, hb, hv⟩ => by subst ha; exact next v w' hb hv) hst)
    · rename_i hw
      rw [if_neg hw] at hst
      exact next undef w (Below.refl _ _) hst

/-- THE LAW. -/
theorem wp_region_local {R : Nat → World → Value → Prop} {id : Nat} {Q : Exit → Act → World → Prop} {a0 : Act} {w0 : World} (hm : P.follows .mixedOrders = true) (hok : localOk ops = true)
    (hR : ∀ i w w' v, Below w.heap.size w w' → R i w v → R i w' v)
    (hsz : ∀ (i : Nat) (o : Oper) (d : Tmp), ops[i]? = some o → o.dst = some d → d < a0.tmps.size)
    (hstep : ∀ (i : Nat) (o : Oper), ops[i]? = some o → StepOk P ops R Q a0 w0 i o)
    (hdone : ∀ a w, Below w0.heap.size w0 w → a.tmps.size = a0.tmps.size → a.defers = a0.defers → (∀ t, NotDst ops t → a.tmps.getD t undef = a0.tmps.getD t undef) → (∀ j, Met ops R j a w) → Q .normal a w) :
    (Code.region id ops true).wp P Q a0 w0 := by
  refine wp_region_any hm ?_
  refine local_any hok hR hsz hstep hdone _ _ _ _ (by simp) ⟨⟨rfl, rfl, rfl, Nat.le_refl _, fun _ _ => rfl⟩, rfl, rfl, fun _ _ => rfl, fun j hj => ?_⟩ (by simp)
  by_cases h : j < ops.size <;> simp [h] at hj

/-- All slots lie below n. -/
def dstBelow (ops : Array Oper) (n : Nat) : Bool := ops.all fun o => match o.dst with
  | some d => decide (d < n)
  | none => true
theorem dst_lt {n : Nat} (h : dstBelow ops n = true) (i : Nat) (o : Oper) (d : Tmp) (ho : ops[i]? = some o) (hd : o.dst = some d) : d < n := by
  obtain ⟨hi, rfl⟩ := Array.getElem?_eq_some_iff.1 ho
  have := Array.all_eq_true.1 h i hi
  simpa [hd] using this

/-! ### The steps, one by one -/
def AllSteps (F : Nat → Oper → Prop) : Nat → List Oper → Prop
  | _, [] => True
  | i, o :: os => F i o ∧ AllSteps F (i + 1) os
theorem steps_of {F : Nat → Oper → Prop} (h : AllSteps F 0 ops.toList) : ∀ (i : Nat) (o : Oper), ops[i]? = some o → F i o := by
  have gen : ∀ (l : List Oper) (k i : Nat) (o : Oper), AllSteps F k l → l[i]? = some o → F (k + i) o := by
    intro l
    induction l with
    | nil => intro k i o _ h; simp at h
    | cons x l ih =>
      intro k i o hl hi
      cases i with
      | zero => simp at hi; subst hi; exact hl.1
      | succ i =>
        have := ih (k + 1) i o hl.2 (by simpa using hi)
        rw [show k + 1 + i = k + (i + 1) by omega] at this
        exact this
  intro i o hi
  have := gen ops.toList 0 i o h (by simpa using hi)
  simpa using this

/-- What a step is told. -/
structure Told (ops : Array Oper) (R : Nat → World → Value → Prop) (a0 : Act) (w0 : World) (o : Oper) (a : Act) (w : World) : Prop where
  below : Below w0.heap.size w0 w
  size : a.tmps.size = a0.tmps.size
  same : ∀ t, NotDst ops t → a.tmps.getD t undef = a0.tmps.getD t undef
  deps : ∀ e ∈ o.after, Region.binds .any e = true → Met ops R e.on a w

variable {R : Nat → World → Value → Prop} {Q : Exit → Act → World → Prop} {a0 : Act} {w0 : World} {i : Nat} {o : Oper}

theorem Told.dep {a : Act} {w : World} (h : Told ops R a0 w0 o a w) (j : Nat) (d : Tmp) (hj : (o.after.any fun e => e.on == j && Region.binds .any e) = true) (hd : ((ops[j]?).bind (·.dst)) = some d) : R j w (a.eval (.tmp d)) := by
  obtain ⟨e, he, hb⟩ := Array.any_eq_true'.1 hj
  simp only [Bool.and_eq_true, beq_iff_eq] at hb
  cases ho : ops[j]? with
  | none => rw [ho] at hd; cases hd
  | some oj =>
    rw [ho] at hd
    have hm := h.deps e he hb.2
    rw [hb.1] at hm
    exact hm oj d ho hd
/-- No operation writes slot t. -/
def notDstB (ops : Array Oper) (t : Tmp) : Bool := ops.all fun o => o.dst != some t
theorem Told.old {a : Act} {w : World} (h : Told ops R a0 w0 o a w) (t : Tmp) (v : Value) (hn : notDstB ops t = true) (hv : a0.eval (.tmp t) = v) : a.eval (.tmp t) = v := by
  refine (h.same t fun i o ho => ?_).trans hv
  obtain ⟨hi, rfl⟩ := Array.getElem?_eq_some_iff.1 ho
  have := Array.all_eq_true.1 hn i hi
  simpa using this

theorem getD_spelt (a : Act) (d : Tmp) : a.eval (.tmp d) = a.tmps[d]?.getD undef := by
  show a.tmps.getD d undef = _
  rw [Array.getD_eq_getD_getElem?]
/-- The same in the walk's spelling. -/
theorem Told.dep' {a : Act} {w : World} (h : Told ops R a0 w0 o a w) (j : Nat) (d : Tmp) (hj : (o.after.any fun e => e.on == j && Region.binds .any e) = true) (hd : ((ops[j]?).bind (·.dst)) = some d) : R j w (a.tmps[d]?.getD undef) := by
  rw [← getD_spelt]; exact h.dep j d hj hd
theorem Told.old' {a : Act} {w : World} (h : Told ops R a0 w0 o a w) (t : Tmp) (v : Value) (hn : notDstB ops t = true) (hv : a0.eval (.tmp t) = v) : a.tmps[t]?.getD undef = v := by
  rw [← getD_spelt]; exact h.old t v hn hv

theorem stepOk_value (hg : o.guard = none) (h : ∀ a w, Told ops R a0 w0 o a w → ∃ v w', (execOp a.eval o).run P w = .ok (.value v) w' ∧ Below w.heap.size w w' ∧ R i w' v) : StepOk P ops R Q a0 w0 i o := by
  intro a w h1 h2 h3 h4
  obtain ⟨v, w', hrun, hb, hv⟩ := h a w ⟨h1, h2, h3, h4⟩
  rw [if_pos (by simp [Region.wanted, hg])]
  unfold Oper.wp
  rw [hrun]
  exact ⟨v, rfl, hb, hv⟩
theorem stepOk_call (hg : o.guard = none) (h : ∀ a w, Told ops R a0 w0 o a w → ∃ f args, (execOp a.eval o).run P w = .ok (.enter f args) w ∧ Calls P f args w fun e w' => ∃ v, e = .returned v ∧ Below w.heap.size w w' ∧ R i w' v) :
    StepOk P ops R Q a0 w0 i o := by
  intro a w h1 h2 h3 h4
  obtain ⟨f, args, hrun, hc⟩ := h a w ⟨h1, h2, h3, h4⟩
  rw [if_pos (by simp [Region.wanted, hg])]
  unfold Oper.wp
  rw [hrun]
  refine Calls.mono hc fun e w' he => ?_
  obtain ⟨v, rfl, hb, hv⟩ := he
  exact ⟨v, rfl, hb, hv⟩
/-- Guarded, and the guard is known to say yes. -/
theorem wanted_yes {a : Act} {w : World} (j : Nat) (d : Tmp) (b : Bool) (hg : o.guard = some (j, b)) (hd : ((ops[j]?).bind (·.dst)) = some d) (hs : d < a.tmps.size) (_h : Told ops R a0 w0 o a w) (hv : a.eval (.tmp d) = .bool b) :
    Region.wanted o (yielded ops a.tmps) = true := by
  have h1 : a.tmps[d]? = some (.bool b) := by
    have : a.tmps.getD d undef = .bool b := hv
    rw [Array.getD_eq_getD_getElem?, Array.getElem?_eq_getElem hs] at this
    rw [Array.getElem?_eq_getElem hs]
    simpa using this
  simp [Region.wanted, hg, yielded, hd, h1]
theorem stepOk_call_guarded (j : Nat) (d : Tmp) (b : Bool) (hg : o.guard = some (j, b)) (hj : (o.after.any fun e => e.on == j && Region.binds .any e) = true) (hd : ((ops[j]?).bind (·.dst)) = some d) (hs : d < a0.tmps.size)
    (hRj : ∀ w v, R j w v → v = .bool b)
    (h : ∀ a w, Told ops R a0 w0 o a w → ∃ f args, (execOp a.eval o).run P w = .ok (.enter f args) w ∧ Calls P f args w fun e w' => ∃ v, e = .returned v ∧ Below w.heap.size w w' ∧ R i w' v) :
    StepOk P ops R Q a0 w0 i o := by
  intro a w h1 h2 h3 h4
  have ht : Told ops R a0 w0 o a w := ⟨h1, h2, h3, h4⟩
  obtain ⟨f, args, hrun, hc⟩ := h a w ht
  rw [if_pos (wanted_yes j d b hg hd (by rw [h2]; exact hs) ht (hRj w _ (ht.dep j d hj hd)))]
  unfold Oper.wp
  rw [hrun]
  refine Calls.mono hc fun e w' he => ?_
  obtain ⟨v, rfl, hb, hv⟩ := he
  exact ⟨v, rfl, hb, hv⟩
theorem stepOk_value_guarded (j : Nat) (d : Tmp) (b : Bool) (hg : o.guard = some (j, b)) (hj : (o.after.any fun e => e.on == j && Region.binds .any e) = true) (hd : ((ops[j]?).bind (·.dst)) = some d) (hs : d < a0.tmps.size)
    (hRj : ∀ w v, R j w v → v = .bool b)
    (h : ∀ a w, Told ops R a0 w0 o a w → ∃ v w', (execOp a.eval o).run P w = .ok (.value v) w' ∧ Below w.heap.size w w' ∧ R i w' v) : StepOk P ops R Q a0 w0 i o := by
  intro a w h1 h2 h3 h4
  have ht : Told ops R a0 w0 o a w := ⟨h1, h2, h3, h4⟩
  obtain ⟨v, w', hrun, hb, hv⟩ := h a w ht
  rw [if_pos (wanted_yes j d b hg hd (by rw [h2]; exact hs) ht (hRj w _ (ht.dep j d hj hd)))]
  unfold Oper.wp
  rw [hrun]
  exact ⟨v, rfl, hb, hv⟩
end Go.Proofs.Ytbajgpbekanodaa
