/- The law of XRegion with its end told: the state behind the region is the old one with each operation's value written. Conditions: those of XRegion, and every operation writes a slot ('allDst', a closed check). -/
import Derived.Test.YtbajgpbekanodaaRegion
namespace Go.Proofs.Ytbajgpbekanodaa
open Go.RowKit

variable {P : Program} {ops : Array Oper}

/-- Values written, one after the other. -/
def puts : List (Option Tmp) → List Value → Act → Act
  | d :: ds, v :: vs, a => puts ds vs (a.put d v)
  | _, _, a => a
theorem puts_size (ds : List (Option Tmp)) : ∀ (vs : List Value) (a : Act), (puts ds vs a).tmps.size = a.tmps.size := by
  induction ds with
  | nil => intro vs a; cases vs <;> rfl
  | cons d ds ih => intro vs a; cases vs with
    | nil => rfl
    | cons v vs => show (puts ds vs (a.put d v)).tmps.size = _; rw [ih, size_put]
theorem puts_defers (ds : List (Option Tmp)) : ∀ (vs : List Value) (a : Act), (puts ds vs a).defers = a.defers := by
  induction ds with
  | nil => intro vs a; cases vs <;> rfl
  | cons d ds ih => intro vs a; cases vs with
    | nil => rfl
    | cons v vs => show (puts ds vs (a.put d v)).defers = _; rw [ih, defers_put]
theorem puts_get (t : Tmp) (x : Value) (ds : List (Option Tmp)) : ∀ (vs : List Value) (a : Act), vs.length = ds.length → t < a.tmps.size →
    (∀ j, j < ds.length → ds[j]? = some (some t) → vs.getD j undef = x) → ((∃ j, j < ds.length ∧ ds[j]? = some (some t)) ∨ a.tmps.getD t undef = x) → (puts ds vs a).tmps.getD t undef = x := by
  induction ds with
  | nil => intro vs a _ _ _ h; rcases h with ⟨j, hj, _⟩ | h
           · simp at hj
           · cases vs <;> exact h
  | cons d ds ih =>
    intro vs a hl ht h1 h2
    cases vs with
    | nil => simp at hl
    | cons v vs =>
      show (puts ds vs (a.put d v)).tmps.getD t undef = x
      refine ih vs _ (by simpa using hl) (by rw [size_put]; exact ht) (fun j hj hd => ?_) ?_
      · have := h1 (j + 1) (by simp; exact hj) (by simpa using hd)
        simpa [List.getD] using this
      · by_cases hd : d = some t
        · right
          subst hd
          rw [getD_put_same _ _ _ ht]
          simpa [List.getD] using h1 0 (by simp) rfl
        · rcases h2 with ⟨j, hj, hjd⟩ | h2
          · cases j with
            | zero => simp at hjd; exact absurd hjd hd
            | succ j => exact .inl ⟨j, by simpa using hj, by simpa using hjd⟩
          · right; rw [getD_put_other _ _ _ _ hd]; exact h2

/-- Every operation writes a slot. -/
def allDst (ops : Array Oper) : Bool := ops.toList.all fun o => o.dst.isSome

/-- THE LAW, its end told. -/
theorem wp_region_puts {R : Nat → World → Value → Prop} {id : Nat} {Q : Exit → Act → World → Prop} {a0 : Act} {w0 : World} (hm : P.follows .mixedOrders = true) (hok : localOk ops = true) (hall : allDst ops = true)
    (hR : ∀ i w w' v, Below w.heap.size w w' → R i w v → R i w' v)
    (hsz : dstBelow ops a0.tmps.size = true)
    (hstep : ∀ (i : Nat) (o : Oper), ops[i]? = some o → StepOk P ops R Q a0 w0 i o)
    (hdone : ∀ (vs : List Value) w, vs.length = ops.size → Below w0.heap.size w0 w → (∀ j, j < ops.size → R j w (vs.getD j undef)) → Q .normal (puts (ops.toList.map (·.dst)) vs a0) w) :
    (Code.region id ops true).wp P Q a0 w0 := by
  refine wp_region_local hm hok hR (dst_lt hsz) hstep fun a w hb hs hd hsame hmet => ?_
  have hds : ∀ (j : Nat) (o : Oper), ops[j]? = some o → ∃ d, o.dst = some d := by
    intro j o ho
    have := List.all_eq_true.1 hall o (by
      obtain ⟨hj, rfl⟩ := Array.getElem?_eq_some_iff.1 ho
      exact Array.getElem_mem_toList hj)
    exact Option.isSome_iff_exists.1 this
  have key : a = puts (ops.toList.map (·.dst)) (ops.toList.map fun o => match o.dst with | some d => a.tmps.getD d undef | none => undef) a0 := by
    have e2 : a.tmps = (puts (ops.toList.map (·.dst)) (ops.toList.map fun o => match o.dst with | some d => a.tmps.getD d undef | none => undef) a0).tmps := by
      apply Array.ext
      · rw [puts_size]; exact hs
      · intro t ht1 ht2
        have hp := puts_get t (a.tmps.getD t undef) (ops.toList.map (·.dst)) (ops.toList.map fun o => match o.dst with | some d => a.tmps.getD d undef | none => undef) a0 (by simp) (by rw [← hs]; exact ht1) ?_ ?_
        · rw [Array.getD_eq_getD_getElem?, Array.getElem?_eq_getElem ht2, Option.getD_some] at hp
          rw [hp, Array.getD_eq_getD_getElem?, Array.getElem?_eq_getElem ht1, Option.getD_some]
        · intro j hj hd
          simp only [List.length_map, Array.length_toList] at hj
          simp only [List.getElem?_map, Array.getElem?_toList, Array.getElem?_eq_getElem hj, Option.map_some, Option.some.injEq] at hd
          simp [List.getD, hj, hd]
        · by_cases h : ∃ j, j < ops.size ∧ (ops[j]?.map (·.dst)) = some (some t)
          · obtain ⟨j, hj, hjd⟩ := h
            exact .inl ⟨j, by simpa using hj, by simpa using hjd⟩
          · right
            symm
            refine hsame t fun i o ho hd => h ⟨i, (Array.getElem?_eq_some_iff.1 ho).1, ?_⟩
            rw [ho]; simp [hd]
    have e1 : a.defers = (puts (ops.toList.map (·.dst)) (ops.toList.map fun o => match o.dst with | some d => a.tmps.getD d undef | none => undef) a0).defers := by
      rw [puts_defers]; exact hd
    revert e1 e2
    generalize puts _ _ _ = b
    intro e1 e2
    cases a; cases b
    simp only at e1 e2
    rw [e1, e2]
  rw [key]
  refine hdone _ w (by simp) hb fun j hj => ?_
  obtain ⟨d, hd'⟩ := hds j ops[j] (Array.getElem?_eq_getElem hj)
  have := hmet j ops[j] d (Array.getElem?_eq_getElem hj) hd'
  simpa [List.getD, hj, hd'] using this

/-- The same where each operation's value is known ahead. -/
theorem wp_region_vals {vals : List Value} {id : Nat} {Q : Exit → Act → World → Prop} {a0 : Act} {w0 : World} (hm : P.follows .mixedOrders = true) (hok : localOk ops = true) (hall : allDst ops = true)
    (hlen : vals.length = ops.size) (hsz : dstBelow ops a0.tmps.size = true)
    (hstep : ∀ (i : Nat) (o : Oper), ops[i]? = some o → StepOk P ops (fun i _ v => v = vals.getD i undef) Q a0 w0 i o)
    (hdone : ∀ w, Below w0.heap.size w0 w → Q .normal (puts (ops.toList.map (·.dst)) vals a0) w) :
    (Code.region id ops true).wp P Q a0 w0 := by
  refine wp_region_puts hm hok hall (fun _ _ _ _ _ h => h) hsz hstep fun vs w hl hb h => ?_
  have : vs = vals := by
    apply List.ext_getElem
    · omega
    · intro j h1 h2
      have := h j (by omega)
      simpa [List.getD, h1, h2] using this
  rw [this]
  exact hdone w hb
end Go.Proofs.Ytbajgpbekanodaa
