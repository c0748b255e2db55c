/- The law of a region in phases: some operations, a chain, change the memory for good (an append where it lies, stores); what the others yield does not hang on it. The walk tells what memory is in each phase. -/
import Derived.Test.YtbajgpbekanodaaRegion
namespace Go.Proofs.Ytbajgpbekanodaa
open Go.RowKit

variable {P : Program} {ops : Array Oper}

/-- In which phases an operation may come up. -/
def phaseOk (ops : Array Oper) (sp : List Nat) (i ph : Nat) : Bool := (List.range sp.length).all fun q =>
  (!Region.waitsFor .any ops (sp.getD q 0) i || decide (ph ≤ q)) && (!Region.waitsFor .any ops i (sp.getD q 0) || decide (q < ph))
/-- Each of them waits for the one ahead; none twice. -/
def chainOk (ops : Array Oper) (sp : List Nat) : Bool := (List.range sp.length).all fun q =>
  decide (sp.getD q 0 < ops.size) && (q == 0 || Region.waitsFor .any ops (sp.getD q 0) (sp.getD (q - 1) 0)) && (List.range sp.length).all fun r => r == q || sp.getD r 0 != sp.getD q 0
def noGuard (ops : Array Oper) : Bool := ops.all fun o => o.guard.isNone
/-- What operation number j has yielded meets R. -/
def MetV (ops : Array Oper) (R : Nat → Value → Prop) (j : Nat) (a : Act) : Prop := ∀ (o : Oper) (d : Tmp), ops[j]? = some o → o.dst = some d → R j (a.tmps.getD d undef)

/-- What a step is told. -/
structure ToldP (ops : Array Oper) (R : Nat → Value → Prop) (a0 : Act) (o : Oper) (a : Act) : Prop where
  size : a.tmps.size = a0.tmps.size
  same : ∀ t, NotDst ops t → a.tmps.getD t undef = a0.tmps.getD t undef
  deps : ∀ e ∈ o.after, Region.binds .any e = true → MetV ops R e.on a

structure PhInv (ops : Array Oper) (sp : List Nat) (dx dy : Tmp) (R : Nat → Value → Prop) (W : Nat → Value → Value → World → Prop) (a0 : Act) (listed : Array Bool) (a : Act) (w : World) (ph : Nat) : Prop where
  len : listed.size = ops.size
  closed : ∀ j oj, ops[j]? = some oj → listed.getD j false = true → ∀ e ∈ oj.after, Region.binds .any e = true → listed.getD e.on false = true
  low : ∀ q, q < ph → q < sp.length → listed.getD (sp.getD q 0) false = true
  high : ∀ q, ph ≤ q → q < sp.length → listed.getD (sp.getD q 0) false = false
  le : ph ≤ sp.length
  size : a.tmps.size = a0.tmps.size
  defers : a.defers = a0.defers
  same : ∀ t, NotDst ops t → a.tmps.getD t undef = a0.tmps.getD t undef
  met : ∀ j, listed.getD j false = true → MetV ops R j a
  mem : W ph (a.tmps.getD dx undef) (a.tmps.getD dy undef) w

theorem chain_at {sp : List Nat} (h : chainOk ops sp = true) {q : Nat} (hq : q < sp.length) : sp.getD q 0 < ops.size ∧ (q = 0 ∨ Region.waitsFor .any ops (sp.getD q 0) (sp.getD (q - 1) 0) = true) ∧ ∀ r, r < sp.length → r ≠ q → sp.getD r 0 ≠ sp.getD q 0 := by
  have h1 := List.all_eq_true.1 h q (List.mem_range.2 hq)
  simp only [Bool.and_eq_true, decide_eq_true_eq, Bool.or_eq_true, beq_iff_eq] at h1
  refine ⟨h1.1.1, h1.1.2, fun r hr hrq => ?_⟩
  have h2 := List.all_eq_true.1 h1.2 r (List.mem_range.2 hr)
  simp only [Bool.or_eq_true, beq_iff_eq, bne_iff_ne] at h2
  rcases h2 with h2 | h2
  · exact absurd h2 hrq
  · exact h2

theorem wp_region_phase (sp : List Nat) (dx dy : Tmp) {R : Nat → Value → Prop} {W : Nat → Value → Value → World → Prop} {id : Nat} {Q : Exit → Act → World → Prop} {a0 : Act} {w0 : World}
    (hm : P.follows .mixedOrders = true) (hok : localOk2 ops = true) (hng : noGuard ops = true) (hch : chainOk ops sp = true) (hsz : dstBelow ops a0.tmps.size = true)
    (hinit : W 0 (a0.tmps.getD dx undef) (a0.tmps.getD dy undef) { w0 with drawn := w0.drawn + 1 })
    (hstep : ∀ (i : Nat) (o : Oper), ops[i]? = some o → ∀ ph a w, phaseOk ops sp i ph = true → (sp.contains i = true → sp.getD ph ops.size = i) → ToldP ops R a0 o a → W ph (a.tmps.getD dx undef) (a.tmps.getD dy undef) w →
      o.wp P a w (fun a' w' => ∃ v, a' = a.put o.dst v ∧ (∀ d, o.dst = some d → R i v) ∧ W (if sp.contains i then ph + 1 else ph) (a'.tmps.getD dx undef) (a'.tmps.getD dy undef) w') Q)
    (hdone : ∀ a w, a.tmps.size = a0.tmps.size → a.defers = a0.defers → (∀ t, NotDst ops t → a.tmps.getD t undef = a0.tmps.getD t undef) → (∀ j, MetV ops R j a) → W sp.length (a.tmps.getD dx undef) (a.tmps.getD dy undef) w → Q .normal a w) :
    (Code.region id ops true).wp P Q a0 w0 := by
  refine wp_region_any hm ?_
  have fin : ∀ (listed : Array Bool) (a : Act) (w : World) (ph : Nat), PhInv ops sp dx dy R W a0 listed a w ph → Region.ready .any ops listed = [] → Q .normal a w := by
    intro listed a w ph inv hr
    have hall : ∀ n j, j < n → j < ops.size → listed.getD j false = true := by
      intro n
      induction n with
      | zero => intro j hj; omega
      | succ n ih =>
        intro j hj hjo
        by_cases hlt : j < n
        · exact ih j hlt hjo
        · have hjn : j = n := by omega
          subst hjn
          apply Classical.byContradiction
          intro hno
          have hno' : listed.getD j true = false := by
            have h1 : j < listed.size := by rw [inv.len]; exact hjo
            simp only [Array.getD_eq_getD_getElem?, Array.getElem?_eq_getElem h1, Option.getD_some] at hno ⊢
            simpa using hno
          have hmem : j ∈ Region.ready .any ops listed := mem_ready.2 ⟨hno', ops[j], by rw [Array.getElem?_eq_getElem hjo], fun e he hbn => ih e.on (localOk2_after hok (Array.getElem?_eq_getElem hjo) e he hbn)
            (Nat.lt_trans (localOk2_after hok (Array.getElem?_eq_getElem hjo) e he hbn) hjo)⟩
          rw [hr] at hmem; cases hmem
    have hph : ph = sp.length := by
      rcases Nat.lt_or_ge ph sp.length with h | h
      · have h1 := inv.high ph (Nat.le_refl _) h
        have h2 := hall ops.size (sp.getD ph 0) (chain_at hch h).1 (chain_at hch h).1
        rw [h1] at h2; cases h2
      · have := inv.le; omega
    subst hph
    refine hdone a w inv.size inv.defers inv.same (fun j => ?_) inv.mem
    by_cases hj : j < ops.size
    · exact inv.met j (hall ops.size j hj hj)
    · intro o d ho; rw [Array.getElem?_eq_none (by omega)] at ho; cases ho
  have main : ∀ (fuel : Nat) (listed : Array Bool) (a : Act) (w : World) (ph : Nat), PhInv ops sp dx dy R W a0 listed a w ph → (listed.toList.filter (!·)).length ≤ fuel → wpAny P .any ops Q fuel listed a w := by
    intro fuel
    induction fuel with
    | zero =>
      intro listed a w ph inv hlen
      have hr : Region.ready .any ops listed = [] := by
        apply List.eq_nil_iff_forall_not_mem.2
        intro j hj
        obtain ⟨hno, o, ho, _⟩ := mem_ready.1 hj
        have hjl : j < listed.size := by rw [inv.len]; exact (Array.getElem?_eq_some_iff.1 ho).1
        have hf : listed[j] = false := by simpa [hjl] using hno
        have : false ∈ listed.toList.filter (!·) := List.mem_filter.2 ⟨by rw [← hf]; exact Array.getElem_mem_toList hjl, rfl⟩
        have := List.length_pos_of_mem this
        omega
      exact ⟨hr, fin listed a w ph inv hr⟩
    | succ fuel ih =>
      intro listed a w ph inv hlen
      refine ⟨fin listed a w ph inv, fun i hi => ?_⟩
      obtain ⟨hno, o, ho, hal⟩ := mem_ready.1 hi
      have hil : i < listed.size := by rw [inv.len]; exact (Array.getElem?_eq_some_iff.1 ho).1
      have hnof : listed.getD i false = false := getD_both hno
      have hpo : phaseOk ops sp i ph = true := by
        refine List.all_eq_true.2 fun q hq => ?_
        have hq := List.mem_range.1 hq
        simp only [Bool.and_eq_true, Bool.or_eq_true, Bool.not_eq_true', decide_eq_true_eq]
        refine ⟨?_, ?_⟩
        · by_cases hw : Region.waitsFor .any ops (sp.getD q 0) i = true
          · right
            rcases Nat.lt_or_ge q ph with h | h
            · exfalso
              obtain ⟨oj, hoj, e, he, hb, hon⟩ := Region.waitsFor_spec hw
              have := inv.closed _ oj hoj (inv.low q h hq) e he hb
              rw [hon, hnof] at this; cases this
            · exact h
          · left; simpa using hw
        · by_cases hw : Region.waitsFor .any ops i (sp.getD q 0) = true
          · right
            rcases Nat.lt_or_ge q ph with h | h
            · exact h
            · exfalso
              obtain ⟨oj, hoj, e, he, hb, hon⟩ := Region.waitsFor_spec hw
              have : oj = o := Option.some.inj (hoj.symm.trans ho)
              subst this
              have h1 := hal e he hb
              rw [hon, inv.high q h hq] at h1; cases h1
          · left; simpa using hw
      have hspi : sp.contains i = true → ph < sp.length ∧ sp.getD ph 0 = i := fun hc => by
        have hmem : i ∈ sp := by simpa using hc
        obtain ⟨q, hq, hqi⟩ := List.getElem_of_mem hmem
        have hgq : sp.getD q 0 = i := by simp [List.getD, hq, hqi]
        have hqph : ph ≤ q := by
          rcases Nat.lt_or_ge q ph with h | h
          · have := inv.low q h hq
            rw [hgq, hnof] at this; cases this
          · exact h
        rcases Nat.lt_or_ge ph q with h | h
        · exfalso
          rcases (chain_at hch hq).2.1 with h0 | hw
          · omega
          · rw [hgq] at hw
            obtain ⟨oj, hoj, e, he, hb, hon⟩ := Region.waitsFor_spec hw
            have : oj = o := Option.some.inj (hoj.symm.trans ho)
            subst this
            have h1 := hal e he hb
            rw [hon, inv.high (q - 1) (by omega) (by omega)] at h1; cases h1
        · obtain rfl : q = ph := by omega
          exact ⟨hq, hgq⟩
      have hst := hstep i o ho ph a w hpo (fun hc => by
        obtain ⟨h1, h2⟩ := hspi hc
        rw [← h2]
        simp [List.getD, h1]) ⟨inv.size, inv.same, fun e he hb => inv.met e.on (hal e he hb)⟩ inv.mem
      have hw : Region.wanted o (yielded ops a.tmps) = true := by
        have h1 := Array.all_eq_true.1 hng i (Array.getElem?_eq_some_iff.1 ho).1
        rw [(Array.getElem?_eq_some_iff.1 ho).2] at h1
        simp [Region.wanted, Option.isNone_iff_eq_none.1 h1]
      unfold wpOp
      simp only [ho]
      rw [if_pos hw]
      refine .inl (Oper.wp_mono (fun a' w' ⟨v, ha, hv, hmem⟩ => ?_) hst)
      subst ha
      refine ih _ _ _ (if sp.contains i then ph + 1 else ph) ⟨by simpa using inv.len, ?_, ?_, ?_, ?_, by rw [size_put]; exact inv.size, by rw [defers_put]; exact inv.defers, ?_, ?_, hmem⟩ ?_
      · intro j oj hj hl e he hb
        by_cases hij : i = j
        · subst hij
          have : oj = o := Option.some.inj (hj.symm.trans ho)
          subst this
          exact getD_set_true (hal e he hb)
        · rw [getD_set_ne false hij] at hl
          exact getD_set_true (inv.closed j oj hj hl e he hb)
      · intro q hq1 hq2
        by_cases hc : sp.contains i = true
        · rw [if_pos hc] at hq1
          obtain ⟨h1, h2⟩ := hspi hc
          by_cases hqp : q = ph
          · subst hqp
            rw [h2]
            simp [hil]
          · exact getD_set_true (inv.low q (by omega) hq2)
        · rw [if_neg hc] at hq1
          exact getD_set_true (inv.low q hq1 hq2)
      · intro q hq1 hq2
        have hne : i ≠ sp.getD q 0 := fun h => by
          have hc : sp.contains i = true := by
            rw [h]
            have : sp.getD q 0 ∈ sp := by simp [List.getD, hq2]
            simpa using this
          obtain ⟨h1, h2⟩ := hspi hc
          rw [if_pos hc] at hq1
          exact (chain_at hch hq2).2.2 ph h1 (by omega) (h2.trans h)
        rw [getD_set_ne false hne]
        refine inv.high q ?_ hq2
        split at hq1 <;> omega
      · split
        · rename_i hc
          have := (hspi hc).1
          omega
        · exact inv.le
      · intro t ht
        rw [getD_put_other _ _ _ _ (ht i o ho)]; exact inv.same t ht
      · intro j hj oj d hoj hd
        by_cases hji : j = i
        · subst hji
          rw [ho] at hoj; cases hoj
          rw [hd, getD_put_same _ _ _ (by rw [inv.size]; exact dst_lt hsz j o d ho hd)]
          exact hv d hd
        · rw [getD_put_other _ _ _ _ (localOk2_dst hok hoj ho (Ne.symm hji) hd)]
          rw [getD_set_ne false (Ne.symm hji)] at hj
          exact inv.met j hj oj d hoj hd
      · have hf : listed[i] = false := by simpa [hil] using hno
        have hset : (listed.setIfInBounds i true).toList = listed.toList.set i true := by simp
        rw [hset]
        have h1 := filter_take_set (listed.toList.length + 1) listed.toList i (by simpa using hil) (by simp; omega) (by simpa using hf)
        rw [List.take_of_length_le (by simp), List.take_of_length_le (by omega)] at h1
        omega
  exact main _ _ _ _ 0 ⟨by simp, fun j oj _ hj => (by rw [getD_replicate_false] at hj; cases hj), fun q hq => absurd hq (Nat.not_lt_zero _), fun q _ _ => getD_replicate_false _ _, Nat.zero_le _, rfl, rfl, fun _ _ => rfl, fun j hj => (by rw [getD_replicate_false] at hj; cases hj), hinit⟩ (by simp)

/-! ### The steps -/
theorem wp_value {o : Oper} {a : Act} {w w' : World} {v : Value} {K : Act → World → Prop} {Q : Exit → Act → World → Prop} (hrun : (execOp a.eval o).run P w = .ok (.value v) w') (h : K (a.put o.dst v) w') : o.wp P a w K Q := by
  unfold Oper.wp
  rw [hrun]
  exact h
theorem wp_calls {o : Oper} {a : Act} {w : World} {f : FuncId} {args : Array Value} {K : Act → World → Prop} {Q : Exit → Act → World → Prop} (hrun : (execOp a.eval o).run P w = .ok (.enter f args) w)
    (hc : Calls P f args w fun e w' => ∃ v, e = .returned v ∧ K (a.put o.dst v) w') : o.wp P a w K Q := by
  unfold Oper.wp
  rw [hrun]
  refine Calls.mono hc fun e w' he => ?_
  obtain ⟨v, rfl, h⟩ := he
  exact h
theorem ToldP.dep {R : Nat → Value → Prop} {a0 : Act} {o : Oper} {a : Act} (h : ToldP ops R a0 o a) (j : Nat) (d : Tmp) (hj : (o.after.any fun e => e.on == j && Region.binds .any e) = true) (hd : ((ops[j]?).bind (·.dst)) = some d) : R j (a.tmps[d]?.getD undef) := by
  rw [← getD_spelt]
  obtain ⟨e, he, hb⟩ := Array.any_eq_true'.1 hj
  simp only [Bool.and_eq_true, beq_iff_eq] at hb
  cases ho : ops[j]? with
  | none => rw [ho] at hd; cases hd
  | some oj =>
    rw [ho] at hd
    have hm := h.deps e he hb.2
    rw [hb.1] at hm
    exact hm oj d ho hd
theorem ToldP.old {R : Nat → Value → Prop} {a0 : Act} {o : Oper} {a : Act} (h : ToldP ops R a0 o a) (t : Tmp) (v : Value) (hn : notDstB ops t = true) (hv : a0.eval (.tmp t) = v) : a.tmps[t]?.getD undef = v := by
  rw [← getD_spelt]
  refine (h.same t fun i o ho => ?_).trans hv
  obtain ⟨hi, rfl⟩ := Array.getElem?_eq_some_iff.1 ho
  have := Array.all_eq_true.1 hn i hi
  simpa using this
/-- A slot that an operation does not write. -/
theorem put_keeps (a : Act) (dst : Option Tmp) (v : Value) (d : Tmp) (h : dst ≠ some d) : (a.put dst v).tmps.getD d undef = a.tmps.getD d undef := getD_put_other a dst d v h
theorem phase_le {sp : List Nat} {i ph : Nat} (h : phaseOk ops sp i ph = true) (q : Nat) (hq : decide (q < sp.length) = true) (hw : Region.waitsFor .any ops (sp.getD q 0) i = true) : ph ≤ q := by
  have h1 := List.all_eq_true.1 h q (List.mem_range.2 (of_decide_eq_true hq))
  simp only [Bool.and_eq_true, Bool.or_eq_true, Bool.not_eq_true', decide_eq_true_eq] at h1
  rcases h1.1 with h2 | h2
  · rw [hw] at h2; cases h2
  · exact h2
theorem phase_gt {sp : List Nat} {i ph : Nat} (h : phaseOk ops sp i ph = true) (q : Nat) (hq : decide (q < sp.length) = true) (hw : Region.waitsFor .any ops i (sp.getD q 0) = true) : q < ph := by
  have h1 := List.all_eq_true.1 h q (List.mem_range.2 (of_decide_eq_true hq))
  simp only [Bool.and_eq_true, Bool.or_eq_true, Bool.not_eq_true', decide_eq_true_eq] at h1
  rcases h1.2 with h2 | h2
  · rw [hw] at h2; cases h2
  · exact h2
end Go.Proofs.Ytbajgpbekanodaa
