/- A law for a region that draws its order and makes memory: each operation meets its own contract, told of the operations that it waits for; so it does not matter which order is drawn.
   What each operation yields must go on holding while new memory is made ('Below'). Conditions: every operation waits for earlier ones alone, and no two write one slot ('localOk', a closed check). -/
import Derived.Orders
import Derived.Below
import Derived.StillTail
namespace Go.Proofs.Ytbajgpbekanodaa
open Go.RowKit

variable {P : Program} {ops : Array Oper}

/-- Each operation waits for earlier ones alone; each slot is written once. -/
def localOk (ops : Array Oper) : Bool :=
  (List.range ops.size).all fun i =>
    match ops[i]? with
    | some o => o.after.all (fun e => decide (e.on < i)) && (List.range ops.size).all fun j => j == i || match ops[j]? with
      | some oj => match o.dst with
        | some d => oj.dst != some d
        | none => true
      | none => true
    | none => true

theorem localOk_after (h : localOk ops = true) {i : Nat} {o : Oper} (hi : ops[i]? = some o) : ∀ e ∈ o.after, e.on < i := by
  have hlt : i < ops.size := (Array.getElem?_eq_some_iff.1 hi).1
  have h1 := List.all_eq_true.1 h i (by simpa using hlt)
  simp only [hi, Bool.and_eq_true] at h1
  intro e he
  have h2 := Array.all_eq_true_iff_forall_mem.1 h1.1 e he
  simpa using h2
theorem localOk_dst (h : localOk ops = true) {i j : Nat} {o oj : Oper} (hi : ops[i]? = some o) (hj : ops[j]? = some oj) (hne : j ≠ i) {d : Tmp} (hd : o.dst = some d) : oj.dst ≠ some d := by
  have hlt : i < ops.size := (Array.getElem?_eq_some_iff.1 hi).1
  have hltj : j < ops.size := (Array.getElem?_eq_some_iff.1 hj).1
  have h1 := List.all_eq_true.1 h i (by simpa using hlt)
  simp only [hi, Bool.and_eq_true] at h1
  have h2 := List.all_eq_true.1 h1.2 j (by simpa using hltj)
  simpa [hj, hd, hne] using h2

/-- A slot that no operation of the region writes. -/
def NotDst (ops : Array Oper) (t : Tmp) : Prop := ∀ (i : Nat) (o : Oper), ops[i]? = some o → o.dst ≠ some t
/-- What operation number j has yielded meets R. -/
def Met (ops : Array Oper) (R : Nat → World → Value → Prop) (j : Nat) (a : Act) (w : World) : Prop :=
  ∀ (o : Oper) (d : Tmp), ops[j]? = some o → o.dst = some d → R j w (a.tmps.getD d undef)
/-- One operation's own contract. -/
def StepOk (P : Program) (ops : Array Oper) (R : Nat → World → Value → Prop) (Q : Exit → Act → World → Prop) (a0 : Act) (w0 : World) (i : Nat) (o : Oper) : Prop :=
  ∀ (a : Act) (w : World), Below w0.heap.size w0 w → a.tmps.size = a0.tmps.size → (∀ t, NotDst ops t → a.tmps.getD t undef = a0.tmps.getD t undef) →
    (∀ e ∈ o.after, Region.binds .any e = true → Met ops R e.on a w) →
    if Region.wanted o (yielded ops a.tmps) = true then o.wp P a w (fun a' w' => ∃ v, a' = a.put o.dst v ∧ Below w.heap.size w w' ∧ R i w' v) Q else R i w undef

theorem getD_put_same (a : Act) (d : Tmp) (v : Value) (h : d < a.tmps.size) : (a.put (some d) v).tmps.getD d undef = v := by
  simp [Act.put, h]
theorem getD_put_other (a : Act) (dst : Option Tmp) (d : Tmp) (v : Value) (h : dst ≠ some d) : (a.put dst v).tmps.getD d undef = a.tmps.getD d undef := by
  cases dst with
  | none => rfl
  | some t =>
    have hne : t ≠ d := fun e => h (by rw [e])
    simp only [Act.put, Array.getD_eq_getD_getElem?, Array.getElem?_setIfInBounds, if_neg hne]
theorem size_put (a : Act) (dst : Option Tmp) (v : Value) : (a.put dst v).tmps.size = a.tmps.size := by
  cases dst <;> simp [Act.put]
theorem defers_put (a : Act) (dst : Option Tmp) (v : Value) : (a.put dst v).defers = a.defers := by
  cases dst <;> rfl

/-- What holds between two operations, whichever have come up. -/
structure LocalInv (ops : Array Oper) (R : Nat → World → Value → Prop) (a0 : Act) (w0 : World) (listed : Array Bool) (a : Act) (w : World) : Prop where
  below : Below w0.heap.size w0 w
  size : a.tmps.size = a0.tmps.size
  defers : a.defers = a0.defers
  same : ∀ t, NotDst ops t → a.tmps.getD t undef = a0.tmps.getD t undef
  met : ∀ j, listed.getD j false = true → Met ops R j a w

theorem local_any {R : Nat → World → Value → Prop} {Q : Exit → Act → World → Prop} {a0 : Act} {w0 : World} (hok : localOk ops = true)
    (hR : ∀ i w w' v, Below w.heap.size w w' → R i w v → R i w' v)
    (hsz : ∀ (i : Nat) (o : Oper) (d : Tmp), ops[i]? = some o → o.dst = some d → d < a0.tmps.size)
    (hstep : ∀ (i : Nat) (o : Oper), ops[i]? = some o → StepOk P ops R Q a0 w0 i o)
    (hdone : ∀ a w, Below w0.heap.size w0 w → a.tmps.size = a0.tmps.size → a.defers = a0.defers → (∀ t, NotDst ops t → a.tmps.getD t undef = a0.tmps.getD t undef) → (∀ j, Met ops R j a w) → Q .normal a w) :
    ∀ (fuel : Nat) (listed : Array Bool) (a : Act) (w : World), listed.size = ops.size → LocalInv ops R a0 w0 listed a w → (listed.toList.filter (!·)).length ≤ fuel →
      wpAny P .any ops Q fuel listed a w := by
  have fin : ∀ (listed : Array Bool) (a : Act) (w : World), listed.size = ops.size → LocalInv ops R a0 w0 listed a w → Region.ready .any ops listed = [] → Q .normal a w := by
    intro listed a w hls hinv hr
    have hall : ∀ n j, j < n → j < ops.size → listed.getD j false = true := by
      intro n
      induction n with
      | zero => intro j hj; omega
      | succ n ih =>
        intro j hj hjo
        by_cases hlt : j < n
        · exact ih j hlt hjo
        · have hjn : j = n := by omega
          subst hjn
          apply Classical.byContradiction
          intro hno
          have hno' : listed.getD j true = false := by
            have h1 : j < listed.size := by omega
            simp only [Array.getD_eq_getD_getElem?, Array.getElem?_eq_getElem h1, Option.getD_some] at hno ⊢
            simpa using hno
          have hmem : j ∈ Region.ready .any ops listed := mem_ready.2 ⟨hno', ops[j], by rw [Array.getElem?_eq_getElem hjo], fun e he _ => ih e.on (localOk_after hok (Array.getElem?_eq_getElem hjo) e he)
            (Nat.lt_trans (localOk_after hok (Array.getElem?_eq_getElem hjo) e he) hjo)⟩
          rw [hr] at hmem; cases hmem
    refine hdone a w hinv.below hinv.size hinv.defers hinv.same fun j => ?_
    by_cases hj : j < ops.size
    · exact hinv.met j (hall ops.size j hj hj)
    · intro o d ho; rw [Array.getElem?_eq_none (by omega)] at ho; cases ho
  intro fuel
  induction fuel with
  | zero =>
    intro listed a w hls hinv hlen
    have hr : Region.ready .any ops listed = [] := by
      apply List.eq_nil_iff_forall_not_mem.2
      intro j hj
      obtain ⟨hno, o, ho, _⟩ := mem_ready.1 hj
      have hjl : j < listed.size := by rw [hls]; exact (Array.getElem?_eq_some_iff.1 ho).1
      have hf : listed[j] = false := by simpa [hjl] using hno
      have : false ∈ listed.toList.filter (!·) := List.mem_filter.2 ⟨by rw [← hf]; exact Array.getElem_mem_toList hjl, rfl⟩
      have := List.length_pos_of_mem this
      omega
    exact ⟨hr, fin listed a w hls hinv hr⟩
  | succ fuel ih =>
    intro listed a w hls hinv hlen
    refine ⟨fin listed a w hls hinv, fun i hi => ?_⟩
    obtain ⟨hno, o, ho, hall⟩ := mem_ready.1 hi
    have hil : i < listed.size := by rw [hls]; exact (Array.getElem?_eq_some_iff.1 ho).1
    have hst := hstep i o ho a w hinv.below hinv.size hinv.same (fun e he hb => hinv.met e.on (hall e he hb))
    have next : ∀ (v : Value) (w' : World), Below w.heap.size w w' → R i w' v → wpAny P .any ops Q fuel (listed.setIfInBounds i true) (a.put o.dst v) w' := by
      intro v w' hb hv
      have hmono : Below w0.heap.size w0 w' := hinv.below.trans (hb.mono (by have := hinv.below.size; omega))
      refine ih _ _ _ (by simpa using hls) ⟨hmono, by rw [size_put]; exact hinv.size, by rw [defers_put]; exact hinv.defers, fun t ht => ?_, fun j hj oj d hoj hd => ?_⟩ ?_
      · rw [getD_put_other _ _ _ _ (ht i o ho)]; exact hinv.same t ht
      · by_cases hji : j = i
        · subst hji
          rw [ho] at hoj; cases hoj
          rw [hd, getD_put_same _ _ _ (by rw [hinv.size]; exact hsz j o d ho hd)]
          exact hv
        · rw [getD_put_other _ _ _ _ (localOk_dst hok hoj ho (Ne.symm hji) hd)]
          rw [getD_set_ne false (Ne.symm hji)] at hj
          exact hR j w w' _ hb (hinv.met j hj oj d hoj hd)
      · have hf : listed[i] = false := by simpa [hil] using hno
        have hset : (listed.setIfInBounds i true).toList = listed.toList.set i true := by simp
        rw [hset]
        have hcount : ∀ (l : List Bool) (k : Nat) (hk : k < l.length), l[k] = false → ((l.set k true).filter (!·)).length + 1 = (l.filter (!·)).length := by
          intro l
          induction l with
          | nil => intro k hk; simp at hk
          | cons b l ihl =>
            intro k hk hb
            cases k with
            | zero =>
              simp only [List.getElem_cons_zero] at hb
              subst hb
              simp
            | succ k =>
              simp only [List.getElem_cons_succ] at hb
              have := ihl k (by simpa using hk) hb
              rw [List.set_cons_succ]
              cases b with
              | true => simpa using this
              | false => simp only [List.filter_cons, Bool.not_false, if_true, List.length_cons]; omega
        have := hcount listed.toList i (by simpa using hil) (by simpa using hf)
        omega
    unfold wpOp
    simp only [ho]
    split
    · rename_i hw
      rw [if_pos hw] at hst
      exact .inl (Oper.wp_mono (fun a' w' ⟨v, ha, hb, hv⟩ => by subst ha; exact next v w' hb hv) hst)
    · rename_i hw
      rw [if_neg hw] at hst
      exact next undef w (Below.refl _ _) hst

/-- THE LAW. -/
theorem wp_region_local {R : Nat → World → Value → Prop} {id : Nat} {Q : Exit → Act → World → Prop} {a0 : Act} {w0 : World} (hm : P.follows .mixedOrders = true) (hok : localOk ops = true)
    (hR : ∀ i w w' v, Below w.heap.size w w' → R i w v → R i w' v)
    (hsz : ∀ (i : Nat) (o : Oper) (d : Tmp), ops[i]? = some o → o.dst = some d → d < a0.tmps.size)
    (hstep : ∀ (i : Nat) (o : Oper), ops[i]? = some o → StepOk P ops R Q a0 w0 i o)
    (hdone : ∀ a w, Below w0.heap.size w0 w → a.tmps.size = a0.tmps.size → a.defers = a0.defers → (∀ t, NotDst ops t → a.tmps.getD t undef = a0.tmps.getD t undef) → (∀ j, Met ops R j a w) → Q .normal a w) :
    (Code.region id ops true).wp P Q a0 w0 := by
  refine wp_region_any hm ?_
  refine local_any hok hR hsz hstep hdone _ _ _ _ (by simp) ⟨⟨rfl, rfl, rfl, Nat.le_refl _, fun _ _ => rfl⟩, rfl, rfl, fun _ _ => rfl, fun j hj => ?_⟩ (by simp)
  by_cases h : j < ops.size <;> simp [h] at hj

/-- All slots lie below n. -/
def dstBelow (ops : Array Oper) (n : Nat) : Bool := ops.all fun o => match o.dst with
  | some d => decide (d < n)
  | none => true
theorem dst_lt {n : Nat} (h : dstBelow ops n = true) (i : Nat) (o : Oper) (d : Tmp) (ho : ops[i]? = some o) (hd : o.dst = some d) : d < n := by
  obtain ⟨hi, rfl⟩ := Array.getElem?_eq_some_iff.1 ho
  have := Array.all_eq_true.1 h i hi
  simpa [hd] using this

/-! ### The steps, one by one -/
def AllSteps (F : Nat → Oper → Prop) : Nat → List Oper → Prop
  | _, [] => True
  | i, o :: os => F i o ∧ AllSteps F (i + 1) os
theorem steps_of {F : Nat → Oper → Prop} (h : AllSteps F 0 ops.toList) : ∀ (i : Nat) (o : Oper), ops[i]? = some o → F i o := by
  have gen : ∀ (l : List Oper) (k i : Nat) (o : Oper), AllSteps F k l → l[i]? = some o → F (k + i) o := by
    intro l
    induction l with
    | nil => intro k i o _ h; simp at h
    | cons x l ih =>
      intro k i o hl hi
      cases i with
      | zero => simp at hi; subst hi; exact hl.1
      | succ i =>
        have := ih (k + 1) i o hl.2 (by simpa using hi)
        rw [show k + 1 + i = k + (i + 1) by omega] at this
        exact this
  intro i o hi
  have := gen ops.toList 0 i o h (by simpa using hi)
  simpa using this

/-- What a step is told. -/
structure Told (ops : Array Oper) (R : Nat → World → Value → Prop) (a0 : Act) (w0 : World) (o : Oper) (a : Act) (w : World) : Prop where
  below : Below w0.heap.size w0 w
  size : a.tmps.size = a0.tmps.size
  same : ∀ t, NotDst ops t → a.tmps.getD t undef = a0.tmps.getD t undef
  deps : ∀ e ∈ o.after, Region.binds .any e = true → Met ops R e.on a w

variable {R : Nat → World → Value → Prop} {Q : Exit → Act → World → Prop} {a0 : Act} {w0 : World} {i : Nat} {o : Oper}

theorem Told.dep {a : Act} {w : World} (h : Told ops R a0 w0 o a w) (j : Nat) (d : Tmp) (hj : (o.after.any fun e => e.on == j && Region.binds .any e) = true) (hd : ((ops[j]?).bind (·.dst)) = some d) : R j w (a.eval (.tmp d)) := by
  obtain ⟨e, he, hb⟩ := Array.any_eq_true'.1 hj
  simp only [Bool.and_eq_true, beq_iff_eq] at hb
  cases ho : ops[j]? with
  | none => rw [ho] at hd; cases hd
  | some oj =>
    rw [ho] at hd
    have hm := h.deps e he hb.2
    rw [hb.1] at hm
    exact hm oj d ho hd
/-- No operation writes slot t. -/
def notDstB (ops : Array Oper) (t : Tmp) : Bool := ops.all fun o => o.dst != some t
theorem Told.old {a : Act} {w : World} (h : Told ops R a0 w0 o a w) (t : Tmp) (v : Value) (hn : notDstB ops t = true) (hv : a0.eval (.tmp t) = v) : a.eval (.tmp t) = v := by
  refine (h.same t fun i o ho => ?_).trans hv
  obtain ⟨hi, rfl⟩ := Array.getElem?_eq_some_iff.1 ho
  have := Array.all_eq_true.1 hn i hi
  simpa using this

theorem getD_spelt (a : Act) (d : Tmp) : a.eval (.tmp d) = a.tmps[d]?.getD undef := by
  show a.tmps.getD d undef = _
  rw [Array.getD_eq_getD_getElem?]
/-- The same in the walk's spelling. -/
theorem Told.dep' {a : Act} {w : World} (h : Told ops R a0 w0 o a w) (j : Nat) (d : Tmp) (hj : (o.after.any fun e => e.on == j && Region.binds .any e) = true) (hd : ((ops[j]?).bind (·.dst)) = some d) : R j w (a.tmps[d]?.getD undef) := by
  rw [← getD_spelt]; exact h.dep j d hj hd
theorem Told.old' {a : Act} {w : World} (h : Told ops R a0 w0 o a w) (t : Tmp) (v : Value) (hn : notDstB ops t = true) (hv : a0.eval (.tmp t) = v) : a.tmps[t]?.getD undef = v := by
  rw [← getD_spelt]; exact h.old t v hn hv

theorem stepOk_value (hg : o.guard = none) (h : ∀ a w, Told ops R a0 w0 o a w → ∃ v w', (execOp a.eval o).run P w = .ok (.value v) w' ∧ Below w.heap.size w w' ∧ R i w' v) : StepOk P ops R Q a0 w0 i o := by
  intro a w h1 h2 h3 h4
  obtain ⟨v, w', hrun, hb, hv⟩ := h a w ⟨h1, h2, h3, h4⟩
  rw [if_pos (by simp [Region.wanted, hg])]
  unfold Oper.wp
  rw [hrun]
  exact ⟨v, rfl, hb, hv⟩
theorem stepOk_call (hg : o.guard = none) (h : ∀ a w, Told ops R a0 w0 o a w → ∃ f args, (execOp a.eval o).run P w = .ok (.enter f args) w ∧ Calls P f args w fun e w' => ∃ v, e = .returned v ∧ Below w.heap.size w w' ∧ R i w' v) :
    StepOk P ops R Q a0 w0 i o := by
  intro a w h1 h2 h3 h4
  obtain ⟨f, args, hrun, hc⟩ := h a w ⟨h1, h2, h3, h4⟩
  rw [if_pos (by simp [Region.wanted, hg])]
  unfold Oper.wp
  rw [hrun]
  refine Calls.mono hc fun e w' he => ?_
  obtain ⟨v, rfl, hb, hv⟩ := he
  exact ⟨v, rfl, hb, hv⟩
/-- Guarded, and the guard is known to say yes. -/
theorem wanted_yes {a : Act} {w : World} (j : Nat) (d : Tmp) (b : Bool) (hg : o.guard = some (j, b)) (hd : ((ops[j]?).bind (·.dst)) = some d) (hs : d < a.tmps.size) (_h : Told ops R a0 w0 o a w) (hv : a.eval (.tmp d) = .bool b) :
    Region.wanted o (yielded ops a.tmps) = true := by
  have h1 : a.tmps[d]? = some (.bool b) := by
    have : a.tmps.getD d undef = .bool b := hv
    rw [Array.getD_eq_getD_getElem?, Array.getElem?_eq_getElem hs] at this
    rw [Array.getElem?_eq_getElem hs]
    simpa using this
  simp [Region.wanted, hg, yielded, hd, h1]
theorem stepOk_call_guarded (j : Nat) (d : Tmp) (b : Bool) (hg : o.guard = some (j, b)) (hj : (o.after.any fun e => e.on == j && Region.binds .any e) = true) (hd : ((ops[j]?).bind (·.dst)) = some d) (hs : d < a0.tmps.size)
    (hRj : ∀ w v, R j w v → v = .bool b)
    (h : ∀ a w, Told ops R a0 w0 o a w → ∃ f args, (execOp a.eval o).run P w = .ok (.enter f args) w ∧ Calls P f args w fun e w' => ∃ v, e = .returned v ∧ Below w.heap.size w w' ∧ R i w' v) :
    StepOk P ops R Q a0 w0 i o := by
  intro a w h1 h2 h3 h4
  have ht : Told ops R a0 w0 o a w := ⟨h1, h2, h3, h4⟩
  obtain ⟨f, args, hrun, hc⟩ := h a w ht
  rw [if_pos (wanted_yes j d b hg hd (by rw [h2]; exact hs) ht (hRj w _ (ht.dep j d hj hd)))]
  unfold Oper.wp
  rw [hrun]
  refine Calls.mono hc fun e w' he => ?_
  obtain ⟨v, rfl, hb, hv⟩ := he
  exact ⟨v, rfl, hb, hv⟩
theorem stepOk_value_guarded (j : Nat) (d : Tmp) (b : Bool) (hg : o.guard = some (j, b)) (hj : (o.after.any fun e => e.on == j && Region.binds .any e) = true) (hd : ((ops[j]?).bind (·.dst)) = some d) (hs : d < a0.tmps.size)
    (hRj : ∀ w v, R j w v → v = .bool b)
    (h : ∀ a w, Told ops R a0 w0 o a w → ∃ v w', (execOp a.eval o).run P w = .ok (.value v) w' ∧ Below w.heap.size w w' ∧ R i w' v) : StepOk P ops R Q a0 w0 i o := by
  intro a w h1 h2 h3 h4
  have ht : Told ops R a0 w0 o a w := ⟨h1, h2, h3, h4⟩
  obtain ⟨v, w', hrun, hb, hv⟩ := h a w ht
  rw [if_pos (wanted_yes j d b hg hd (by rw [h2]; exact hs) ht (hRj w _ (ht.dep j d hj hd)))]
  unfold Oper.wp
  rw [hrun]
  exact ⟨v, rfl, hb, hv⟩
end Go.Proofs.Ytbajgpbekanodaa
namespace Go.Proofs.Ytbajgpbekanodaa
open Go.RowKit

variable {P : Program} {ops : Array Oper}

/-- Values written, one after the other. -/
def puts : List (Option Tmp) → List Value → Act → Act
  | d :: ds, v :: vs, a => puts ds vs (a.put d v)
  | _, _, a => a
theorem puts_size (ds : List (Option Tmp)) : ∀ (vs : List Value) (a : Act), (puts ds vs a).tmps.size = a.tmps.size := by
  induction ds with
  | nil => intro vs a; cases vs <;> rfl
  | cons d ds ih => intro vs a; cases vs with
    | nil => rfl
    | cons v vs => show (puts ds vs (a.put d v)).tmps.size = _; rw [ih, size_put]
theorem puts_defers (ds : List (Option Tmp)) : ∀ (vs : List Value) (a : Act), (puts ds vs a).defers = a.defers := by
  induction ds with
  | nil => intro vs a; cases vs <;> rfl
  | cons d ds ih => intro vs a; cases vs with
    | nil => rfl
    | cons v vs => show (puts ds vs (a.put d v)).defers = _; rw [ih, defers_put]
theorem puts_get (t : Tmp) (x : Value) (ds : List (Option Tmp)) : ∀ (vs : List Value) (a : Act), vs.length = ds.length → t < a.tmps.size →
    (∀ j, j < ds.length → ds[j]? = some (some t) → vs.getD j undef = x) → ((∃ j, j < ds.length ∧ ds[j]? = some (some t)) ∨ a.tmps.getD t undef = x) → (puts ds vs a).tmps.getD t undef = x := by
  induction ds with
  | nil => intro vs a _ _ _ h; rcases h with ⟨j, hj, _⟩ | h
           · simp at hj
           · cases vs <;> exact h
  | cons d ds ih =>
    intro vs a hl ht h1 h2
    cases vs with
    | nil => simp at hl
    | cons v vs =>
      show (puts ds vs (a.put d v)).tmps.getD t undef = x
      refine ih vs _ (by simpa using hl) (by rw [size_put]; exact ht) (fun j hj hd => ?_) ?_
      · have := h1 (j + 1) (by simp; exact hj) (by simpa using hd)
        simpa [List.getD] using this
      · by_cases hd : d = some t
        · right
          subst hd
          rw [getD_put_same _ _ _ ht]
          simpa [List.getD] using h1 0 (by simp) rfl
        · rcases h2 with ⟨j, hj, hjd⟩ | h2
          · cases j with
            | zero => simp at hjd; exact absurd hjd hd
            | succ j => exact .inl ⟨j, by simpa using hj, by simpa using hjd⟩
          · right; rw [getD_put_other _ _ _ _ hd]; exact h2

/-- Every operation writes a slot. -/
def allDst (ops : Array Oper) : Bool := ops.toList.all fun o => o.dst.isSome

/-- THE LAW, its end told. -/
theorem wp_region_puts {R : Nat → World → Value → Prop} {id : Nat} {Q : Exit → Act → World → Prop} {a0 : Act} {w0 : World} (hm : P.follows .mixedOrders = true) (hok : localOk ops = true) (hall : allDst ops = true)
    (hR : ∀ i w w' v, Below w.heap.size w w' → R i w v → R i w' v)
    (hsz : dstBelow ops a0.tmps.size = true)
    (hstep : ∀ (i : Nat) (o : Oper), ops[i]? = some o → StepOk P ops R Q a0 w0 i o)
    (hdone : ∀ (vs : List Value) w, vs.length = ops.size → Below w0.heap.size w0 w → (∀ j, j < ops.size → R j w (vs.getD j undef)) → Q .normal (puts (ops.toList.map (·.dst)) vs a0) w) :
    (Code.region id ops true).wp P Q a0 w0 := by
  refine wp_region_local hm hok hR (dst_lt hsz) hstep fun a w hb hs hd hsame hmet => ?_
  have hds : ∀ (j : Nat) (o : Oper), ops[j]? = some o → ∃ d, o.dst = some d := by
    intro j o ho
    have := List.all_eq_true.1 hall o (by
      obtain ⟨hj, rfl⟩ := Array.getElem?_eq_some_iff.1 ho
      exact Array.getElem_mem_toList hj)
    exact Option.isSome_iff_exists.1 this
  have key : a = puts (ops.toList.map (·.dst)) (ops.toList.map fun o => match o.dst with | some d => a.tmps.getD d undef | none => undef) a0 := by
    have e2 : a.tmps = (puts (ops.toList.map (·.dst)) (ops.toList.map fun o => match o.dst with | some d => a.tmps.getD d undef | none => undef) a0).tmps := by
      apply Array.ext
      · rw [puts_size]; exact hs
      · intro t ht1 ht2
        have hp := puts_get t (a.tmps.getD t undef) (ops.toList.map (·.dst)) (ops.toList.map fun o => match o.dst with | some d => a.tmps.getD d undef | none => undef) a0 (by simp) (by rw [← hs]; exact ht1) ?_ ?_
        · rw [Array.getD_eq_getD_getElem?, Array.getElem?_eq_getElem ht2, Option.getD_some] at hp
          rw [hp, Array.getD_eq_getD_getElem?, Array.getElem?_eq_getElem ht1, Option.getD_some]
        · intro j hj hd
          simp only [List.length_map, Array.length_toList] at hj
          simp only [List.getElem?_map, Array.getElem?_toList, Array.getElem?_eq_getElem hj, Option.map_some, Option.some.injEq] at hd
          simp [List.getD, hj, hd]
        · by_cases h : ∃ j, j < ops.size ∧ (ops[j]?.map (·.dst)) = some (some t)
          · obtain ⟨j, hj, hjd⟩ := h
            exact .inl ⟨j, by simpa using hj, by simpa using hjd⟩
          · right
            symm
            refine hsame t fun i o ho hd => h ⟨i, (Array.getElem?_eq_some_iff.1 ho).1, ?_⟩
            rw [ho]; simp [hd]
    have e1 : a.defers = (puts (ops.toList.map (·.dst)) (ops.toList.map fun o => match o.dst with | some d => a.tmps.getD d undef | none => undef) a0).defers := by
      rw [puts_defers]; exact hd
    revert e1 e2
    generalize puts _ _ _ = b
    intro e1 e2
    cases a; cases b
    simp only at e1 e2
    rw [e1, e2]
  rw [key]
  refine hdone _ w (by simp) hb fun j hj => ?_
  obtain ⟨d, hd'⟩ := hds j ops[j] (Array.getElem?_eq_getElem hj)
  have := hmet j ops[j] d (Array.getElem?_eq_getElem hj) hd'
  simpa [List.getD, hj, hd'] using this

/-- The same where each operation's value is known ahead. -/
theorem wp_region_vals {vals : List Value} {id : Nat} {Q : Exit → Act → World → Prop} {a0 : Act} {w0 : World} (hm : P.follows .mixedOrders = true) (hok : localOk ops = true) (hall : allDst ops = true)
    (hlen : vals.length = ops.size) (hsz : dstBelow ops a0.tmps.size = true)
    (hstep : ∀ (i : Nat) (o : Oper), ops[i]? = some o → StepOk P ops (fun i _ v => v = vals.getD i undef) Q a0 w0 i o)
    (hdone : ∀ w, Below w0.heap.size w0 w → Q .normal (puts (ops.toList.map (·.dst)) vals a0) w) :
    (Code.region id ops true).wp P Q a0 w0 := by
  refine wp_region_puts hm hok hall (fun _ _ _ _ _ h => h) hsz hstep fun vs w hl hb h => ?_
  have : vs = vals := by
    apply List.ext_getElem
    · omega
    · intro j h1 h2
      have := h j (by omega)
      simpa [List.getD, h1, h2] using this
  rw [this]
  exact hdone w hb
end Go.Proofs.Ytbajgpbekanodaa
namespace Go.Proofs.Ytbajgpbekanodaa
open Go.RowKit

variable {P : Program} {ops : Array Oper} {R : Nat → World → Value → Prop} {Q : Exit → Act → World → Prop} {a0 : Act} {w0 : World} {i : Nat} {o : Oper}
theorem stepOk_skip (j : Nat) (d : Tmp) (b c : Bool) (hg : o.guard = some (j, b)) (hbc : c ≠ b) (hj : (o.after.any fun e => e.on == j && Region.binds .any e) = true) (hd : ((ops[j]?).bind (·.dst)) = some d) (hs : d < a0.tmps.size)
    (hRj : ∀ w v, R j w v → v = .bool c) (hu : ∀ w, R i w undef) : StepOk P ops R Q a0 w0 i o := by
  intro a w h1 h2 h3 h4
  have ht : Told ops R a0 w0 o a w := ⟨h1, h2, h3, h4⟩
  have hv : a.eval (.tmp d) = .bool c := hRj w _ (ht.dep j d hj hd)
  have hs' : d < a.tmps.size := by rw [h2]; exact hs
  have e : a.tmps[d]? = some (.bool c) := by
    have : a.tmps.getD d undef = .bool c := hv
    rw [Array.getD_eq_getD_getElem?, Array.getElem?_eq_getElem hs'] at this
    rw [Array.getElem?_eq_getElem hs']
    simpa using this
  rw [if_neg]
  · exact hu w
  · simp [Region.wanted, hg, yielded, hd, e, hbc]
theorem uncons {α : Type} {n : Nat} (l : List α) (h : l.length = n + 1) : ∃ x r, l = x :: r ∧ r.length = n := by
  cases l with
  | nil => simp at h
  | cons x r => exact ⟨x, r, rfl, by simpa using h⟩
end Go.Proofs.Ytbajgpbekanodaa
namespace Go.Proofs.Ytbajgpbekanodaa
open Go.RowKit

variable {P : Program} {ops : Array Oper}

/-- Each operation waits for earlier ones alone; each slot is written once. -/
def localOk2 (ops : Array Oper) : Bool :=
  (List.range ops.size).all fun i =>
    match ops[i]? with
    | some o => o.after.all (fun e => !Region.binds .any e || decide (e.on < i)) && (List.range ops.size).all fun j => j == i || match ops[j]? with
      | some oj => match o.dst with
        | some d => oj.dst != some d
        | none => true
      | none => true
    | none => true

theorem localOk2_after (h : localOk2 ops = true) {i : Nat} {o : Oper} (hi : ops[i]? = some o) : ∀ e ∈ o.after, Region.binds .any e = true → e.on < i := by
  have hlt : i < ops.size := (Array.getElem?_eq_some_iff.1 hi).1
  have h1 := List.all_eq_true.1 h i (by simpa using hlt)
  simp only [hi, Bool.and_eq_true] at h1
  intro e he hb
  have h2 := Array.all_eq_true_iff_forall_mem.1 h1.1 e he
  simpa [hb] using h2
theorem localOk2_dst (h : localOk2 ops = true) {i j : Nat} {o oj : Oper} (hi : ops[i]? = some o) (hj : ops[j]? = some oj) (hne : j ≠ i) {d : Tmp} (hd : o.dst = some d) : oj.dst ≠ some d := by
  have hlt : i < ops.size := (Array.getElem?_eq_some_iff.1 hi).1
  have hltj : j < ops.size := (Array.getElem?_eq_some_iff.1 hj).1
  have h1 := List.all_eq_true.1 h i (by simpa using hlt)
  simp only [hi, Bool.and_eq_true] at h1
  have h2 := List.all_eq_true.1 h1.2 j (by simpa using hltj)
  simpa [hj, hd, hne] using h2

theorem local_any2 {R : Nat → World → Value → Prop} {Q : Exit → Act → World → Prop} {a0 : Act} {w0 : World} (hok : localOk2 ops = true)
    (hR : ∀ i w w' v, Below w.heap.size w w' → R i w v → R i w' v)
    (hsz : ∀ (i : Nat) (o : Oper) (d : Tmp), ops[i]? = some o → o.dst = some d → d < a0.tmps.size)
    (hstep : ∀ (i : Nat) (o : Oper), ops[i]? = some o → StepOk P ops R Q a0 w0 i o)
    (hdone : ∀ a w, Below w0.heap.size w0 w → a.tmps.size = a0.tmps.size → a.defers = a0.defers → (∀ t, NotDst ops t → a.tmps.getD t undef = a0.tmps.getD t undef) → (∀ j, Met ops R j a w) → Q .normal a w) :
    ∀ (fuel : Nat) (listed : Array Bool) (a : Act) (w : World), listed.size = ops.size → LocalInv ops R a0 w0 listed a w → (listed.toList.filter (!·)).length ≤ fuel →
      wpAny P .any ops Q fuel listed a w := by
  have fin : ∀ (listed : Array Bool) (a : Act) (w : World), listed.size = ops.size → LocalInv ops R a0 w0 listed a w → Region.ready .any ops listed = [] → Q .normal a w := by
    intro listed a w hls hinv hr
    have hall : ∀ n j, j < n → j < ops.size → listed.getD j false = true := by
      intro n
      induction n with
      | zero => intro j hj; omega
      | succ n ih =>
        intro j hj hjo
        by_cases hlt : j < n
        · exact ih j hlt hjo
        · have hjn : j = n := by omega
          subst hjn
          apply Classical.byContradiction
          intro hno
          have hno' : listed.getD j true = false := by
            have h1 : j < listed.size := by omega
            simp only [Array.getD_eq_getD_getElem?, Array.getElem?_eq_getElem h1, Option.getD_some] at hno ⊢
            simpa using hno
          have hmem : j ∈ Region.ready .any ops listed := mem_ready.2 ⟨hno', ops[j], by rw [Array.getElem?_eq_getElem hjo], fun e he hbn => ih e.on (localOk2_after hok (Array.getElem?_eq_getElem hjo) e he hbn)
            (Nat.lt_trans (localOk2_after hok (Array.getElem?_eq_getElem hjo) e he hbn) hjo)⟩
          rw [hr] at hmem; cases hmem
    refine hdone a w hinv.below hinv.size hinv.defers hinv.same fun j => ?_
    by_cases hj : j < ops.size
    · exact hinv.met j (hall ops.size j hj hj)
    · intro o d ho; rw [Array.getElem?_eq_none (by omega)] at ho; cases ho
  intro fuel
  induction fuel with
  | zero =>
    intro listed a w hls hinv hlen
    have hr : Region.ready .any ops listed = [] := by
      apply List.eq_nil_iff_forall_not_mem.2
      intro j hj
      obtain ⟨hno, o, ho, _⟩ := mem_ready.1 hj
      have hjl : j < listed.size := by rw [hls]; exact (Array.getElem?_eq_some_iff.1 ho).1
      have hf : listed[j] = false := by simpa [hjl] using hno
      have : false ∈ listed.toList.filter (!·) := List.mem_filter.2 ⟨by rw [← hf]; exact Array.getElem_mem_toList hjl, rfl⟩
      have := List.length_pos_of_mem this
      omega
    exact ⟨hr, fin listed a w hls hinv hr⟩
  | succ fuel ih =>
    intro listed a w hls hinv hlen
    refine ⟨fin listed a w hls hinv, fun i hi => ?_⟩
    obtain ⟨hno, o, ho, hall⟩ := mem_ready.1 hi
    have hil : i < listed.size := by rw [hls]; exact (Array.getElem?_eq_some_iff.1 ho).1
    have hst := hstep i o ho a w hinv.below hinv.size hinv.same (fun e he hb => hinv.met e.on (hall e he hb))
    have next : ∀ (v : Value) (w' : World), Below w.heap.size w w' → R i w' v → wpAny P .any ops Q fuel (listed.setIfInBounds i true) (a.put o.dst v) w' := by
      intro v w' hb hv
      have hmono : Below w0.heap.size w0 w' := hinv.below.trans (hb.mono (by have := hinv.below.size; omega))
      refine ih _ _ _ (by simpa using hls) ⟨hmono, by rw [size_put]; exact hinv.size, by rw [defers_put]; exact hinv.defers, fun t ht => ?_, fun j hj oj d hoj hd => ?_⟩ ?_
      · rw [getD_put_other _ _ _ _ (ht i o ho)]; exact hinv.same t ht
      · by_cases hji : j = i
        · subst hji
          rw [ho] at hoj; cases hoj
          rw [hd, getD_put_same _ _ _ (by rw [hinv.size]; exact hsz j o d ho hd)]
          exact hv
        · rw [getD_put_other _ _ _ _ (localOk2_dst hok hoj ho (Ne.symm hji) hd)]
          rw [getD_set_ne false (Ne.symm hji)] at hj
          exact hR j w w' _ hb (hinv.met j hj oj d hoj hd)
      · have hf : listed[i] = false := by simpa [hil] using hno
        have hset : (listed.setIfInBounds i true).toList = listed.toList.set i true := by simp
        rw [hset]
        have hcount : ∀ (l : List Bool) (k : Nat) (hk : k < l.length), l[k] = false → ((l.set k true).filter (!·)).length + 1 = (l.filter (!·)).length := by
          intro l
          induction l with
          | nil => intro k hk; simp at hk
          | cons b l ihl =>
            intro k hk hb
            cases k with
            | zero =>
              simp only [List.getElem_cons_zero] at hb
              subst hb
              simp
            | succ k =>
              simp only [List.getElem_cons_succ] at hb
              have := ihl k (by simpa using hk) hb
              rw [List.set_cons_succ]
              cases b with
              | true => simpa using this
              | false => simp only [List.filter_cons, Bool.not_false, if_true, List.length_cons]; omega
        have := hcount listed.toList i (by simpa using hil) (by simpa using hf)
        omega
    unfold wpOp
    simp only [ho]
    split
    · rename_i hw
      rw [if_pos hw] at hst
      exact .inl (Oper.wp_mono (fun a' w' ⟨v, ha, hb, hv⟩ => by subst ha; exact next v w' hb hv) hst)
    · rename_i hw
      rw [if_neg hw] at hst
      exact next undef w (Below.refl _ _) hst

/-- THE LAW. -/
theorem wp_region_local2 {R : Nat → World → Value → Prop} {id : Nat} {Q : Exit → Act → World → Prop} {a0 : Act} {w0 : World} (hm : P.follows .mixedOrders = true) (hok : localOk2 ops = true)
    (hR : ∀ i w w' v, Below w.heap.size w w' → R i w v → R i w' v)
    (hsz : ∀ (i : Nat) (o : Oper) (d : Tmp), ops[i]? = some o → o.dst = some d → d < a0.tmps.size)
    (hstep : ∀ (i : Nat) (o : Oper), ops[i]? = some o → StepOk P ops R Q a0 w0 i o)
    (hdone : ∀ a w, Below w0.heap.size w0 w → a.tmps.size = a0.tmps.size → a.defers = a0.defers → (∀ t, NotDst ops t → a.tmps.getD t undef = a0.tmps.getD t undef) → (∀ j, Met ops R j a w) → Q .normal a w) :
    (Code.region id ops true).wp P Q a0 w0 := by
  refine wp_region_any hm ?_
  refine local_any2 hok hR hsz hstep hdone _ _ _ _ (by simp) ⟨⟨rfl, rfl, rfl, Nat.le_refl _, fun _ _ => rfl⟩, rfl, rfl, fun _ _ => rfl, fun j hj => ?_⟩ (by simp)
  by_cases h : j < ops.size <;> simp [h] at hj

/-- THE LAW, its end told. -/
theorem wp_region_puts2 {R : Nat → World → Value → Prop} {id : Nat} {Q : Exit → Act → World → Prop} {a0 : Act} {w0 : World} (hm : P.follows .mixedOrders = true) (hok : localOk2 ops = true) (hall : allDst ops = true)
    (hR : ∀ i w w' v, Below w.heap.size w w' → R i w v → R i w' v)
    (hsz : dstBelow ops a0.tmps.size = true)
    (hstep : ∀ (i : Nat) (o : Oper), ops[i]? = some o → StepOk P ops R Q a0 w0 i o)
    (hdone : ∀ (vs : List Value) w, vs.length = ops.size → Below w0.heap.size w0 w → (∀ j, j < ops.size → R j w (vs.getD j undef)) → Q .normal (puts (ops.toList.map (·.dst)) vs a0) w) :
    (Code.region id ops true).wp P Q a0 w0 := by
  refine wp_region_local2 hm hok hR (dst_lt hsz) hstep fun a w hb hs hd hsame hmet => ?_
  have hds : ∀ (j : Nat) (o : Oper), ops[j]? = some o → ∃ d, o.dst = some d := by
    intro j o ho
    have := List.all_eq_true.1 hall o (by
      obtain ⟨hj, rfl⟩ := Array.getElem?_eq_some_iff.1 ho
      exact Array.getElem_mem_toList hj)
    exact Option.isSome_iff_exists.1 this
  have key : a = puts (ops.toList.map (·.dst)) (ops.toList.map fun o => match o.dst with | some d => a.tmps.getD d undef | none => undef) a0 := by
    have e2 : a.tmps = (puts (ops.toList.map (·.dst)) (ops.toList.map fun o => match o.dst with | some d => a.tmps.getD d undef | none => undef) a0).tmps := by
      apply Array.ext
      · rw [puts_size]; exact hs
      · intro t ht1 ht2
        have hp := puts_get t (a.tmps.getD t undef) (ops.toList.map (·.dst)) (ops.toList.map fun o => match o.dst with | some d => a.tmps.getD d undef | none => undef) a0 (by simp) (by rw [← hs]; exact ht1) ?_ ?_
        · rw [Array.getD_eq_getD_getElem?, Array.getElem?_eq_getElem ht2, Option.getD_some] at hp
          rw [hp, Array.getD_eq_getD_getElem?, Array.getElem?_eq_getElem ht1, Option.getD_some]
        · intro j hj hd
          simp only [List.length_map, Array.length_toList] at hj
          simp only [List.getElem?_map, Array.getElem?_toList, Array.getElem?_eq_getElem hj, Option.map_some, Option.some.injEq] at hd
          simp [List.getD, hj, hd]
        · by_cases h : ∃ j, j < ops.size ∧ (ops[j]?.map (·.dst)) = some (some t)
          · obtain ⟨j, hj, hjd⟩ := h
            exact .inl ⟨j, by simpa using hj, by simpa using hjd⟩
          · right
            symm
            refine hsame t fun i o ho hd => h ⟨i, (Array.getElem?_eq_some_iff.1 ho).1, ?_⟩
            rw [ho]; simp [hd]
    have e1 : a.defers = (puts (ops.toList.map (·.dst)) (ops.toList.map fun o => match o.dst with | some d => a.tmps.getD d undef | none => undef) a0).defers := by
      rw [puts_defers]; exact hd
    revert e1 e2
    generalize puts _ _ _ = b
    intro e1 e2
    cases a; cases b
    simp only at e1 e2
    rw [e1, e2]
  rw [key]
  refine hdone _ w (by simp) hb fun j hj => ?_
  obtain ⟨d, hd'⟩ := hds j ops[j] (Array.getElem?_eq_getElem hj)
  have := hmet j ops[j] d (Array.getElem?_eq_getElem hj) hd'
  simpa [List.getD, hj, hd'] using this
end Go.Proofs.Ytbajgpbekanodaa
namespace Go.Proofs.Ytbajgpbekanodaa
open Go.RowKit

variable {P : Program} {ops : Array Oper}

structure TailInv (ops : Array Oper) (N : Nat) (R : Nat → World → Value → Prop) (a0 : Act) (w0 : World) (listed : Array Bool) (a : Act) (w : World) : Prop where
  head : HeadInv .any ops N listed
  below : Below w0.heap.size w0 w
  size : a.tmps.size = a0.tmps.size
  defers : a.defers = a0.defers
  same : ∀ t, (∀ (i : Nat) (o : Oper), i < N → ops[i]? = some o → o.dst ≠ some t) → a.tmps.getD t undef = a0.tmps.getD t undef
  met : ∀ j, j < N → listed.getD j false = true → Met ops R j a w

theorem filter_take_set (N : Nat) : ∀ (l : List Bool) (k : Nat) (hk : k < l.length), k < N → l[k] = false → (((l.set k true).take N).filter (!·)).length + 1 = ((l.take N).filter (!·)).length := by
  induction N with
  | zero => intro l k _ h _; omega
  | succ N ih =>
    intro l k hk hN hb
    cases l with
    | nil => simp at hk
    | cons b l =>
      cases k with
      | zero =>
        simp only [List.getElem_cons_zero] at hb
        subst hb
        simp
      | succ k =>
        simp only [List.getElem_cons_succ] at hb
        have := ih l k (by simpa using hk) (by omega) hb
        rw [List.set_cons_succ, List.take_succ_cons, List.take_succ_cons]
        cases b with
        | true => simpa using this
        | false => simp only [List.filter_cons, Bool.not_false, if_true, List.length_cons]; omega

theorem key_puts {N : Nat} {a0 a : Act} (hs : a.tmps.size = a0.tmps.size) (hd : a.defers = a0.defers)
    (hsame : ∀ t, (∀ (i : Nat) (o : Oper), i < N → ops[i]? = some o → o.dst ≠ some t) → a.tmps.getD t undef = a0.tmps.getD t undef) :
    a = puts ((ops.toList.take N).map (·.dst)) ((ops.toList.take N).map fun o => match o.dst with | some d => a.tmps.getD d undef | none => undef) a0 := by
  have e2 : a.tmps = (puts ((ops.toList.take N).map (·.dst)) ((ops.toList.take N).map fun o => match o.dst with | some d => a.tmps.getD d undef | none => undef) a0).tmps := by
    apply Array.ext
    · rw [puts_size]; exact hs
    · intro t ht1 ht2
      have hp := puts_get t (a.tmps.getD t undef) ((ops.toList.take N).map (·.dst)) ((ops.toList.take N).map fun o => match o.dst with | some d => a.tmps.getD d undef | none => undef) a0 (by simp) (by rw [← hs]; exact ht1) ?_ ?_
      · rw [Array.getD_eq_getD_getElem?, Array.getElem?_eq_getElem ht2, Option.getD_some] at hp
        rw [hp, Array.getD_eq_getD_getElem?, Array.getElem?_eq_getElem ht1, Option.getD_some]
      · intro j hj hd
        simp only [List.length_map, List.length_take, Array.length_toList] at hj
        have hjo : j < ops.size := by omega
        have hjN : j < N := by omega
        simp only [List.getElem?_map, List.getElem?_take_of_lt hjN, Array.getElem?_toList, Array.getElem?_eq_getElem hjo, Option.map_some, Option.some.injEq] at hd
        simp [List.getD, hjo, hjN, hd]
      · by_cases h : ∃ j, j < N ∧ j < ops.size ∧ (ops[j]?.map (·.dst)) = some (some t)
        · obtain ⟨j, hjN, hj, hjd⟩ := h
          refine .inl ⟨j, by simp; omega, ?_⟩
          simpa [hjN] using hjd
        · right
          symm
          refine hsame t fun i o hi ho hd => h ⟨i, hi, (Array.getElem?_eq_some_iff.1 ho).1, ?_⟩
          rw [ho]; simp [hd]
  have e1 : a.defers = (puts ((ops.toList.take N).map (·.dst)) ((ops.toList.take N).map fun o => match o.dst with | some d => a.tmps.getD d undef | none => undef) a0).defers := by
    rw [puts_defers]; exact hd
  revert e1 e2
  generalize puts _ _ _ = b
  intro e1 e2
  cases a; cases b
  simp only at e1 e2
  rw [e1, e2]

/-- Each guard among the first ones stands among the first ones. -/
def guardIn (ops : Array Oper) (N : Nat) : Bool := ops.all fun o => match o.guard with
  | some (j, _) => decide (j < N)
  | none => true
/-- The first operations. -/
def pre (ops : Array Oper) (N : Nat) : Array Oper := (ops.toList.take N).toArray
theorem pre_get {N i : Nat} (h : i < N) : (pre ops N)[i]? = ops[i]? := by
  unfold pre
  simp [h]
theorem pre_lt {N i : Nat} {o : Oper} (h : (pre ops N)[i]? = some o) : i < N := by
  have := (Array.getElem?_eq_some_iff.1 h).1
  unfold pre at this
  simp at this
  omega
theorem wanted_pre {N : Nat} (hg : guardIn (pre ops N) N = true) {i : Nat} {o : Oper} (hi : i < N) (ho : ops[i]? = some o) (a : Act) : Region.wanted o (yielded (pre ops N) a.tmps) = Region.wanted o (yielded ops a.tmps) := by
  have h1 : (pre ops N)[i]? = some o := by rw [pre_get hi]; exact ho
  obtain ⟨hl, h2⟩ := Array.getElem?_eq_some_iff.1 h1
  have h3 := Array.all_eq_true.1 hg i hl
  rw [h2] at h3
  cases hgd : o.guard with
  | none => simp [Region.wanted, hgd]
  | some g =>
    obtain ⟨j, b⟩ := g
    rw [hgd] at h3
    have hj : j < N := by simpa using h3
    simp only [Region.wanted, hgd, yielded, pre_get hj]

/-- THE LAW. -/
theorem wp_region_tail (N : Nat) {R : Nat → World → Value → Prop} {id : Nat} {Q : Exit → Act → World → Prop} {a0 : Act} {w0 : World} (hm : P.follows .mixedOrders = true) (hok : localOk2 ops = true) (hall : allDst (pre ops N) = true)
    (hN : N < ops.size) (hgd : guardIn (pre ops N) N = true) (hs : Region.sinkB .any ops N = true) (hc : Region.chainB .any ops N = true)
    (hseq : Region.seqB .any ops (ops.size - N) N (Array.replicate N true ++ Array.replicate (ops.size - N) false) = true)
    (hR : ∀ i w w' v, Below w.heap.size w w' → R i w v → R i w' v)
    (hsz : dstBelow ops a0.tmps.size = true)
    (hstep : ∀ (i : Nat) (o : Oper), (pre ops N)[i]? = some o → StepOk P (pre ops N) R Q a0 w0 i o)
    (hdone : ∀ (vs : List Value) w, vs.length = N → Below w0.heap.size w0 w → (∀ j, j < N → R j w (vs.getD j undef)) → wpList P ops Q (ops.toList.drop N) (puts ((ops.toList.take N).map (·.dst)) vs a0) w) :
    (Code.region id ops true).wp P Q a0 w0 := by
  refine wp_region_any hm ?_
  have hds : ∀ (j : Nat) (o : Oper), j < N → ops[j]? = some o → ∃ d, o.dst = some d := by
    intro j o hjN ho
    have ho2 : (pre ops N)[j]? = some o := by rw [pre_get hjN]; exact ho
    have := List.all_eq_true.1 hall o (by
      obtain ⟨hj, rfl⟩ := Array.getElem?_eq_some_iff.1 ho2
      exact Array.getElem_mem_toList hj)
    exact Option.isSome_iff_exists.1 this
  have main : ∀ (c : Nat) (listed : Array Bool) (a : Act) (w : World), TailInv ops N R a0 w0 listed a w → ((listed.toList.take N).filter (!·)).length = c → wpAny P .any ops Q (c + (ops.size - N)) listed a w := by
    intro c
    induction c with
    | zero =>
      intro listed a w inv hcnt
      have hlt : ∀ j, j < N → listed.getD j false = true := by
        intro j hj
        have hjl : j < listed.size := by rw [inv.head.size]; omega
        cases hb : listed[j] with
        | true => simp [hjl, hb]
        | false =>
          have hmem : false ∈ (listed.toList.take N).filter (!·) := by
            refine List.mem_filter.2 ⟨?_, rfl⟩
            rw [← hb]
            refine List.mem_take_iff_getElem.2 ⟨j, by rw [Array.length_toList]; omega, by simp⟩
          have := List.length_pos_of_mem hmem
          omega
      have hl0 : listed = Array.replicate N true ++ Array.replicate (ops.size - N) false := by
        apply Array.ext
        · rw [inv.head.size]; simp; omega
        · intro i h1 h2
          by_cases hi : i < N
          · have := hlt i hi
            simp only [Array.getD_eq_getD_getElem?, Array.getElem?_eq_getElem h1, Option.getD_some] at this
            rw [this, Array.getElem_append_left (by simpa using hi)]
            simp
          · have := inv.head.tail i (by omega) (by rw [← inv.head.size]; exact h1)
            simp only [Array.getD_eq_getD_getElem?, Array.getElem?_eq_getElem h1, Option.getD_some] at this
            rw [this, Array.getElem_append_right (by simpa using hi)]
            simp
      have hlen : (ops.toList.drop N).length = ops.size - N := by simp
      rw [Nat.zero_add, ← hlen]
      refine wpAny_of_seq (ops.toList.drop N) N listed a w (fun j => by simp) (by rw [hlen, hl0]; exact hseq) ?_
      have key := key_puts (N := N) inv.size inv.defers inv.same
      rw [key]
      refine hdone _ w (by simp; omega) inv.below fun j hj => ?_
      obtain ⟨d, hd'⟩ := hds j (ops[j]'(by omega)) hj (Array.getElem?_eq_getElem (by omega))
      have := inv.met j hj (hlt j hj) (ops[j]'(by omega)) d (Array.getElem?_eq_getElem (by omega)) hd'
      have hjo : j < ops.size := by omega
      simpa [List.getD, hj, hjo, hd'] using this
    | succ c ih =>
      intro listed a w inv hcnt
      have hex : ∃ i, i < N ∧ listed.getD i true = false := by
        have hpos : 0 < ((listed.toList.take N).filter (!·)).length := by omega
        obtain ⟨b, hb⟩ := List.exists_mem_of_length_pos hpos
        obtain ⟨hb1, hb2⟩ := List.mem_filter.1 hb
        have hbf : b = false := by simpa using hb2
        subst hbf
        obtain ⟨i, hi, hbi⟩ := List.mem_take_iff_getElem.1 hb1
        simp at hi
        refine ⟨i, by omega, ?_⟩
        have h1 : i < listed.size := by omega
        rw [Array.getD_eq_getD_getElem?, Array.getElem?_eq_getElem h1]
        simpa using hbi
      have hne : Region.ready .any ops listed ≠ [] := by
        intro hr
        have hall2 : ∀ n j, j < n → j < N → listed.getD j false = true := by
          intro n
          induction n with
          | zero => intro j hj; omega
          | succ n ih2 =>
            intro j hj hjN
            by_cases hlt : j < n
            · exact ih2 j hlt hjN
            · have hjn : j = n := by omega
              subst hjn
              apply Classical.byContradiction
              intro hno
              have hjo : j < ops.size := by omega
              have hno' : listed.getD j true = false := by
                have h1 : j < listed.size := by rw [inv.head.size]; omega
                simp only [Array.getD_eq_getD_getElem?, Array.getElem?_eq_getElem h1, Option.getD_some] at hno ⊢
                simpa using hno
              have hmem : j ∈ Region.ready .any ops listed := mem_ready.2 ⟨hno', ops[j], by rw [Array.getElem?_eq_getElem hjo], fun e he hbn => ih2 e.on (localOk2_after hok (Array.getElem?_eq_getElem hjo) e he hbn)
                (Nat.lt_trans (localOk2_after hok (Array.getElem?_eq_getElem hjo) e he hbn) hjN)⟩
              rw [hr] at hmem; cases hmem
        obtain ⟨i, hiN, hi⟩ := hex
        have h1 := hall2 (i + 1) i (by omega) hiN
        rw [getD_both hi] at h1
        cases h1
      rw [show c + 1 + (ops.size - N) = (c + (ops.size - N)) + 1 by omega]
      refine ⟨fun h => absurd h hne, fun i hi => ?_⟩
      obtain ⟨i0, hi0, hi0f⟩ := hex
      have hiN : i < N := by
        rcases Nat.lt_or_ge i N with h | h
        · exact h
        · exact absurd hi (tail_waits hs hc hN inv.head _ i0 rfl hi0 hi0f i h)
      obtain ⟨hno, o, ho, hal⟩ := mem_ready.1 hi
      have hil : i < listed.size := by rw [inv.head.size]; exact (Array.getElem?_eq_some_iff.1 ho).1
      have hst := hstep i o (by rw [pre_get hiN]; exact ho) a w inv.below inv.size (fun t ht => inv.same t fun j oj hj hoj => ht j oj (by rw [pre_get hj]; exact hoj))
        (fun e he hb => by
          have hlt := Nat.lt_trans (localOk2_after hok ho e he hb) hiN
          have hmt := inv.met e.on hlt (hal e he hb)
          intro oj d hoj hd
          rw [pre_get hlt] at hoj
          exact hmt oj d hoj hd)
      rw [wanted_pre hgd hiN ho] at hst
      have next : ∀ (v : Value) (w' : World), Below w.heap.size w w' → R i w' v → wpAny P .any ops Q (c + (ops.size - N)) (listed.setIfInBounds i true) (a.put o.dst v) w' := by
        intro v w' hb hv
        have hmono : Below w0.heap.size w0 w' := inv.below.trans (hb.mono (by have := inv.below.size; omega))
        refine ih _ _ _ ⟨inv.head.set hi hiN, hmono, by rw [size_put]; exact inv.size, by rw [defers_put]; exact inv.defers, fun t ht => ?_, fun j hjN hj oj d hoj hd => ?_⟩ ?_
        · rw [getD_put_other _ _ _ _ (ht i o hiN ho)]; exact inv.same t ht
        · by_cases hji : j = i
          · subst hji
            rw [ho] at hoj; cases hoj
            rw [hd, getD_put_same _ _ _ (by rw [inv.size]; exact dst_lt hsz j o d ho hd)]
            exact hv
          · rw [getD_put_other _ _ _ _ (localOk2_dst hok hoj ho (Ne.symm hji) hd)]
            rw [getD_set_ne false (Ne.symm hji)] at hj
            exact hR j w w' _ hb (inv.met j hjN hj oj d hoj hd)
        · have hf : listed[i] = false := by simpa [hil] using hno
          have hset : (listed.setIfInBounds i true).toList = listed.toList.set i true := by simp
          rw [hset]
          have := filter_take_set N listed.toList i (by simpa using hil) hiN (by simpa using hf)
          omega
      unfold wpOp
      simp only [ho]
      split
      · rename_i hw
        rw [if_pos hw] at hst
        exact .inl (Oper.wp_mono (fun a' w' ⟨v, ha, hb, hv⟩ => by subst ha; exact next v w' hb hv) hst)
      · rename_i hw
        rw [if_neg hw] at hst
        exact next undef w (Below.refl _ _) hst
  have h0 : ((Array.replicate ops.size false).toList.take N).filter (!·) = List.replicate N false := by
    simp [List.take_replicate, Nat.min_eq_left (Nat.le_of_lt hN)]
  have hfin := main N (Array.replicate ops.size false) a0 { w0 with drawn := w0.drawn + 1 } ⟨⟨by simp, fun j oj _ hj => (by rw [getD_replicate_false] at hj; cases hj), fun t _ ht => (by simp [ht])⟩, ⟨rfl, rfl, rfl, Nat.le_refl _, fun _ _ => rfl⟩, rfl, rfl, fun _ _ => rfl, fun j _ hj => (by rw [getD_replicate_false] at hj; cases hj)⟩ (by rw [h0]; simp)
  have e : N + (ops.size - N) = ops.size := by omega
  rw [e] at hfin
  exact hfin
end Go.Proofs.Ytbajgpbekanodaa
