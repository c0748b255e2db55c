/- Two feeds with one head: the same entries, or two unlike texts with one digest. -/
import Derived.Test.YtbajgpbekanodaaFeedChain
import Derived.Test.YtbajgpbekanodaaFeedMade
import Derived.Test.YtbajgpbekanodaaOctBackM
import Derived.Test.YtbajgpbekanodaaFeedTwo
namespace Go.Proofs.Ytbajgpbekanodaa
open Go.RowKit

theorem text_inj {x y : Fd.Ent} (hx : 0 ≤ x.seq ∧ x.seq ≤ 9223372036854775807) (hy : 0 ≤ y.seq ∧ y.seq ≤ 9223372036854775807) (hxp : x.prev.size < 18446744073709551616) (hyp : y.prev.size < 18446744073709551616) (hxb : x.body.size < 18446744073709551616) (hyb : y.body.size < 18446744073709551616)
    (h : x.text = y.text) : x = y := by
  unfold Fd.Ent.text at h
  have q1 : (max x.seq 0).toNat < 18446744073709551616 := by omega
  have q2 : (max y.seq 0).toNat < 18446744073709551616 := by omega
  generalize ha : (max x.seq 0).toNat = a at *
  generalize hb : (max y.seq 0).toNat = b at *
  have e0 : ∀ n : ByteArray, ByteArray.empty ++ n = n := fun n => by simp
  have e1 : ∀ n : ByteArray, n ++ ByteArray.empty = n := fun n => by simp
  have t1 := Oct.tnB_laid ByteArray.empty (Oct.textB x.prev ++ Oct.textB x.body) a q1
  have t2 := Oct.tnB_laid ByteArray.empty (Oct.textB y.prev ++ Oct.textB y.body) b q2
  rw [e0, ← ByteArray.append_assoc] at t1 t2
  rw [h, t2] at t1
  have hab : a = b := by injection t1 with t1 _; exact t1.symm
  subst hab
  have u1 := Oct.ttB_laid (Oct.numB a) x.prev (Oct.textB x.body) hxp
  have u2 := Oct.ttB_laid (Oct.numB a) y.prev (Oct.textB y.body) hyp
  rw [h, u2] at u1
  have hp : x.prev = y.prev := by injection u1 with u1 _; exact u1.symm
  rw [hp] at h
  have v1 := Oct.ttB_laid (Oct.numB a ++ Oct.textB y.prev) x.body ByteArray.empty hxb
  have v2 := Oct.ttB_laid (Oct.numB a ++ Oct.textB y.prev) y.body ByteArray.empty hyb
  rw [e1] at v1 v2
  rw [h, v2] at v1
  have hbd : x.body = y.body := by injection v1 with v1 _; exact v1.symm
  obtain ⟨xs, xp, xb⟩ := x
  obtain ⟨ys, yp, yb⟩ := y
  simp only at hp hbd ha hb hx hy
  subst hp hbd
  have : xs = ys := by omega
  rw [this]

/-! ### Entries that go on from nothing -/
/-- The state that entries lead to. -/
def endSt (H : ByteArray → ByteArray) (st : Fd.State) (l : List Fd.Ent) : Fd.State := l.foldl (fun s e => s.push H e) st
theorem endSt_snoc (H : ByteArray → ByteArray) (st : Fd.State) (l : List Fd.Ent) (x : Fd.Ent) : endSt H st (l ++ [x]) = (endSt H st l).push H x := by unfold endSt; rw [List.foldl_append]; rfl
theorem endSt_all (H : ByteArray → ByteArray) (l : List Fd.Ent) : ∀ st : Fd.State, (endSt H st l).all = st.all ++ l := by
  induction l with
  | nil => intro st; simp [endSt]
  | cons x l ih =>
    intro st
    show (endSt H (st.push H x) l).all = _
    rw [ih]
    show (st.all ++ [x]) ++ l = _
    simp
theorem goesL_snoc (H : ByteArray → ByteArray) (x : Fd.Ent) (l : List Fd.Ent) : ∀ st : Fd.State, goesL H st l = true → x = (endSt H st l).next x.body → goesL H st (l ++ [x]) = true := by
  induction l with
  | nil =>
    intro st _ h
    show (if x = st.next x.body then goesL H (st.push H x) [] else false) = true
    rw [if_pos (show x = st.next x.body from h)]; rfl
  | cons y l ih =>
    intro st h1 h2
    unfold goesL at h1
    show (if y = st.next y.body then goesL H (st.push H y) (l ++ [x]) else false) = true
    by_cases h : y = st.next y.body
    · rw [if_pos h] at h1 ⊢
      exact ih _ h1 h2
    · rw [if_neg h] at h1; cases h1
theorem goesL_at (H : ByteArray → ByteArray) (l : List Fd.Ent) : ∀ (st : Fd.State), goesL H st l = true → ∀ i, i < l.length → l.getD i Ent0 = (endSt H st (l.take i)).next (l.getD i Ent0).body := by
  induction l with
  | nil => intro st _ i hi; simp at hi
  | cons y l ih =>
    intro st h i hi
    unfold goesL at h
    by_cases h0 : y = st.next y.body
    · rw [if_pos h0] at h
      cases i with
      | zero => simpa [endSt] using h0
      | succ i =>
        have := ih _ h i (by simpa using hi)
        simpa [endSt] using this
    · rw [if_neg h0] at h; cases h
structure Chained (H : ByteArray → ByteArray) (s : Fd.State) : Prop where
  goes : goesL H stE s.all = true
  ends : endSt H stE s.all = s
theorem Chained.push {H : ByteArray → ByteArray} {s : Fd.State} (h : Chained H s) {x : Fd.Ent} (hx : x = s.next x.body) : Chained H (s.push H x) := by
  refine ⟨goesL_snoc H x s.all stE h.goes (by rw [h.ends]; exact hx), ?_⟩
  show endSt H stE (s.all ++ [x]) = _
  rw [endSt_snoc, h.ends]
theorem chained_runs (H : ByteArray → ByteArray) (bs : List ByteArray) : ∀ s : Fd.State, Chained H s → Chained H (s.adds H bs) := by
  induction bs with
  | nil => intro s h; exact h
  | cons b bs ih => intro s h; exact ih _ (h.push rfl)
theorem chained_goOn (H : ByteArray → ByteArray) (es : List Fd.Ent) : ∀ s s' : Fd.State, Chained H s → goOn H s es = some s' → Chained H s' := by
  induction es with
  | nil => intro s s' h h2; unfold goOn at h2; cases h2; exact h
  | cons x es ih =>
    intro s s' h h2
    unfold goOn at h2
    by_cases hx : x = s.next x.body ∧ isBig x.body = false
    · rw [if_pos hx] at h2
      exact ih _ _ (h.push hx.1) h2
    · rw [if_neg hx] at h2; cases h2
theorem Chained.seq {H : ByteArray → ByteArray} {s : Fd.State} (h : Chained H s) {i : Nat} (hi : i < s.all.length) : (s.all.getD i Ent0).seq = (i : Int) + 1 := by
  rw [goesL_at H s.all stE h.goes i hi]
  show ((endSt H stE (s.all.take i)).all.length : Int) + 1 = _
  rw [endSt_all]
  show ((([] : List Fd.Ent) ++ s.all.take i).length : Int) + 1 = _
  rw [List.nil_append, List.length_take]
  omega
theorem endSt_last (H : ByteArray → ByteArray) (l : List Fd.Ent) (st : Fd.State) (n : Nat) (h : l.length = n + 1) : (endSt H st l).head = H (l.getD n Ent0).text := by
  have hs : l = l.take n ++ [l.getD n Ent0] := by
    have h1 := List.take_succ_eq_append_getElem (i := n) (l := l) (by omega)
    rw [List.take_of_length_le (by omega)] at h1
    conv => lhs; rw [h1]
    congr 2
    simp [List.getD, show n < l.length by omega]
  conv => lhs; rw [hs]
  rw [endSt_snoc]
  rfl
theorem Chained.prev {H : ByteArray → ByteArray} {s : Fd.State} (h : Chained H s) {i : Nat} (hi : i + 1 < s.all.length) : (s.all.getD (i + 1) Ent0).prev = H (s.all.getD i Ent0).text := by
  rw [goesL_at H s.all stE h.goes (i + 1) hi]
  show (endSt H stE (s.all.take (i + 1))).head = _
  rw [endSt_last H _ _ i (by rw [List.length_take]; omega)]
  congr 2
  rw [List.getD_eq_getElem?_getD, List.getD_eq_getElem?_getD, List.getElem?_take_of_lt (by omega)]
theorem Chained.head {H : ByteArray → ByteArray} {s : Fd.State} (h : Chained H s) (hn : s.all ≠ []) : s.head = H (lastE s.all).text := by
  have hl : 0 < s.all.length := List.length_pos_iff.2 hn
  have := endSt_last H s.all stE (s.all.length - 1) (by omega)
  rw [h.ends] at this
  exact this
theorem Chained.none {H : ByteArray → ByteArray} {s : Fd.State} (h : Chained H s) (hn : s.all = []) : s.head = ByteArray.empty := by
  have := h.ends
  rw [hn] at this
  rw [← this]
  rfl
theorem diff_found {H : ByteArray → ByteArray} {s f : Fd.State} (hs : Chained H s) (hf : Chained H f) (hh : s.all ≠ [] → f.all ≠ [] → H (lastE s.all).text = H (lastE f.all).text) (hsn : s.all ≠ []) (hfn : f.all ≠ []) (hne : s.all ≠ f.all) :
    ∀ (c k : Nat), s.all.length - k = c → k ≤ s.all.length → k ≤ f.all.length → (∀ j, j < k → s.all.getD (s.all.length - 1 - j) Ent0 = f.all.getD (f.all.length - 1 - j) Ent0) →
    ∃ x y, firstDiff (s.all.reverse.drop k) (f.all.reverse.drop k) = some (x, y) ∧ x ≠ y ∧ x ∈ s.all ∧ y ∈ f.all ∧ H x.text = H y.text := by
  have hl1 : 0 < s.all.length := List.length_pos_iff.2 hsn
  have hl2 : 0 < f.all.length := List.length_pos_iff.2 hfn
  have hend : ∀ k, (k = s.all.length ∨ k = f.all.length) → k ≤ s.all.length → k ≤ f.all.length → ¬ (∀ j, j < k → s.all.getD (s.all.length - 1 - j) Ent0 = f.all.getD (f.all.length - 1 - j) Ent0) := by
    intro k hk h1 h2 hj
    by_cases hl : s.all.length = f.all.length
    · refine hne (list_ext_ent hl fun i hi => ?_)
      have := hj (s.all.length - 1 - i) (by omega)
      rw [show s.all.length - 1 - (s.all.length - 1 - i) = i by omega, ← hl, show s.all.length - 1 - (s.all.length - 1 - i) = i by omega] at this
      exact this
    · have h0 := hj 0 (by omega)
      have q1 := hs.seq (i := s.all.length - 1 - 0) (by omega)
      have q2 := hf.seq (i := f.all.length - 1 - 0) (by omega)
      rw [h0] at q1
      omega
  intro c
  induction c with
  | zero =>
    intro k hc h1 h2 hj
    exact absurd hj (hend k (Or.inl (by omega)) h1 h2)
  | succ c ih =>
    intro k hc h1 h2 hj
    by_cases hkf : k = f.all.length
    · exact absurd hj (hend k (Or.inr hkf) h1 h2)
    · have hks : k < s.all.length := by omega
      have hkf' : k < f.all.length := by omega
      rw [firstDiff_step _ _ k hks hkf']
      by_cases hx : s.all.getD (s.all.length - 1 - k) Ent0 = f.all.getD (f.all.length - 1 - k) Ent0
      · rw [if_pos hx]
        refine ih (k + 1) (by omega) (by omega) (by omega) fun j hjk => ?_
        by_cases hjk2 : j < k
        · exact hj j hjk2
        · obtain rfl : j = k := by omega
          exact hx
      · rw [if_neg hx]
        refine ⟨_, _, rfl, hx, ?_, ?_, ?_⟩
        · rw [show s.all.getD (s.all.length - 1 - k) Ent0 = s.all[s.all.length - 1 - k]'(by omega) by rw [List.getD_eq_getElem?_getD, List.getElem?_eq_getElem]; rfl]
          exact List.getElem_mem _
        · rw [show f.all.getD (f.all.length - 1 - k) Ent0 = f.all[f.all.length - 1 - k]'(by omega) by rw [List.getD_eq_getElem?_getD, List.getElem?_eq_getElem]; rfl]
          exact List.getElem_mem _
        · by_cases hk0 : k = 0
          · subst hk0
            exact hh hsn hfn
          · have hp := hj (k - 1) (by omega)
            have p1 := hs.prev (i := s.all.length - 1 - k) (by omega)
            have p2 := hf.prev (i := f.all.length - 1 - k) (by omega)
            rw [show s.all.length - 1 - k + 1 = s.all.length - 1 - (k - 1) by omega] at p1
            rw [show f.all.length - 1 - k + 1 = f.all.length - 1 - (k - 1) by omega, ← hp, p1] at p2
            exact p2
/-- Two feeds with one head. -/
theorem clash_heads {H : ByteArray → ByteArray} (hH : ∀ s, (H s).size = 32) {s f : Fd.State} (hs : Chained H s) (hf : Chained H f) (hos : ∀ e ∈ s.all, e.ok) (hof : ∀ e ∈ f.all, e.ok) (hh : s.head = f.head) (hne : s.all ≠ f.all) :
    ∃ t u, clashR H s.all f.all = (t, u, true) ∧ t ≠ u ∧ H t = H u ∧ t.size ≤ 149000000000100 ∧ u.size ≤ 149000000000100 := by
  have hsz : ∀ (g : Fd.State), Chained H g → g.all ≠ [] → g.head.size = 32 := fun g hg h => by rw [hg.head h]; exact hH _
  have hz : ∀ (g : Fd.State), Chained H g → g.all = [] → g.head.size = 0 := fun g hg h => by rw [hg.none h]; rfl
  have hsn : s.all ≠ [] := fun h => by
    have h1 := hz s hs h
    by_cases h2 : f.all = []
    · exact hne (h.trans h2.symm)
    · have := hsz f hf h2; rw [hh] at h1; omega
  have hfn : f.all ≠ [] := fun h => by
    have h1 := hz f hf h
    have := hsz s hs hsn
    rw [hh] at this; omega
  have hlast : H (lastE s.all).text = H (lastE f.all).text := by rw [← hs.head hsn, ← hf.head hfn, hh]
  obtain ⟨x, y, h1, h2, h3, h4, h5⟩ := diff_found hs hf (fun _ _ => hlast) hsn hfn hne _ 0 rfl (by omega) (by omega) (fun j hj => by omega)
  refine ⟨x.text, y.text, clashR_yes ⟨hsn, hfn, hs.goes, hf.goes, hlast⟩ h1, fun ht => h2 ?_, h5, text_size x (hos x h3), text_size y (hof y h4)⟩
  have sq : ∀ (g : Fd.State), Chained H g → ∀ e ∈ g.all, 0 ≤ e.seq := fun g hg e he => by
    obtain ⟨i, hi, rfl⟩ := List.getElem_of_mem he
    have := hg.seq hi
    rw [show g.all.getD i Ent0 = g.all[i] by rw [List.getD_eq_getElem?_getD, List.getElem?_eq_getElem hi]; rfl] at this
    omega
  obtain ⟨_, a2, a3, a4, _⟩ := hos x h3
  obtain ⟨_, b2, b3, b4, _⟩ := hof y h4
  exact text_inj ⟨sq s hs x h3, a2⟩ ⟨sq f hf y h4, b2⟩ (by omega) (by omega) (by omega) (by omega) ht
end Go.Proofs.Ytbajgpbekanodaa
namespace Go.Proofs.Ytbajgpbekanodaa
open Go.RowKit

theorem goOn_ok (H : ByteArray → ByteArray) (hH : ∀ s, (H s).size = 32) (es : List Fd.Ent) : ∀ s s' : Fd.State, goOn H s es = some s' → (∀ e ∈ s.all, e.ok) → s.head.size ≤ 32 → s.all.length + es.length ≤ 1000000 → (∀ e ∈ s'.all, e.ok) ∧ s'.all.length ≤ s.all.length + es.length ∧ s'.head.size ≤ 32 := by
  induction es with
  | nil => intro s s' h h1 h2 h3; unfold goOn at h; cases h; exact ⟨h1, by simp, h2⟩
  | cons x es ih =>
    intro s s' h h1 h2 h3
    unfold goOn at h
    by_cases hx : x = s.next x.body ∧ isBig x.body = false
    · rw [if_pos hx] at h
      have hb : x.body.size ≤ 8000 := by
        have h4 := hx.2
        unfold isBig at h4
        have h5 : ¬ (8000 : Int) < (x.body.size : Int) := by simpa using h4
        omega
      have hxs : x.seq = (s.all.length : Int) + 1 := by rw [hx.1]; rfl
      have hxp : x.prev = s.head := by rw [hx.1]; rfl
      rw [List.length_cons] at h3
      have hl : (s.push H x).all.length = s.all.length + 1 := by show (s.all ++ [x]).length = _; rw [List.length_append]; rfl
      obtain ⟨r1, r2, r3⟩ := ih (s.push H x) s' h (fun e he => by
        have he : e ∈ s.all ++ [x] := he
        rcases List.mem_append.1 he with h6 | h6
        · exact h1 e h6
        · rw [List.mem_singleton.1 h6]
          exact ⟨by omega, by omega, by rw [hxp]; omega, by omega, by rw [hxp]; omega⟩) (by show (H _).size ≤ 32; rw [hH]; exact Nat.le_refl _) (by rw [hl]; omega)
      exact ⟨r1, by rw [List.length_cons]; omega, r3⟩
    · rw [if_neg hx] at h; cases h
/-- What Take leaves. -/
theorem take_ok (H : ByteArray → ByteArray) (hH : ∀ s, (H s).size = 32) (s : Fd.State) (head : ByteArray) (es : List Fd.Ent) (h1 : ∀ e ∈ s.all, e.ok) (h2 : s.head.size ≤ 32) (h3 : s.all.length + es.length ≤ 1000000) (hc : Chained H s) :
    (∀ e ∈ (takeR H s head es).1.all, e.ok) ∧ (takeR H s head es).1.all.length ≤ s.all.length + es.length ∧ (takeR H s head es).1.head.size ≤ 32 ∧ Chained H (takeR H s head es).1 ∧
      (((takeR H s head es).2 = 390 ∧ (takeR H s head es).1 = s) ∨ ((takeR H s head es).2 = 0 ∧ (takeR H s head es).1.head = head)) := by
  unfold takeR
  by_cases h : es.length ≤ restOf s.all.length es
  · rw [if_pos h]
    refine ⟨h1, by simp, h2, hc, ?_⟩
    by_cases hh : head = s.head
    · right; exact ⟨if_pos hh, hh.symm⟩
    · left; exact ⟨if_neg hh, rfl⟩
  · rw [if_neg h]
    cases hg : goOn H s (es.drop (restOf s.all.length es)) with
    | none => exact ⟨h1, by simp, h2, hc, Or.inl ⟨rfl, rfl⟩⟩
    | some s' =>
      have hl : (es.drop (restOf s.all.length es)).length ≤ es.length := by rw [List.length_drop]; omega
      obtain ⟨r1, r2, r3⟩ := goOn_ok H hH _ s s' hg h1 h2 (by omega)
      have hc' := chained_goOn H _ s s' hc hg
      by_cases hh : s'.head = head
      · simp only [if_pos hh]
        exact ⟨r1, by omega, r3, hc', Or.inr ⟨trivial, hh⟩⟩
      · simp only [if_neg hh]
        exact ⟨h1, by omega, h2, hc, Or.inl ⟨trivial, trivial⟩⟩
theorem chained_stE (H : ByteArray → ByteArray) : Chained H stE := ⟨rfl, rfl⟩
theorem runs_chained (H : ByteArray → ByteArray) (bs : List ByteArray) : Chained H (runs H bs) := chained_runs H bs stE (chained_stE H)
/-- A row that a call made: where it lies. -/
theorem ents_new {w : World} {X : Nat} {v : Value} {es : List Fd.Ent} (h : w.ownsRow X 82 3 v es.length (Fd.flat es)) : ∃ ao cap, v = .slice ao es.length cap ∧ EntsAt w ao es ∧ es.length ≤ cap ∧ cap ≤ maxLen ∧ ∀ b off, ao = some ⟨b, off, none⟩ → X ≤ b := by
  obtain ⟨ao, cap, rfl, hat, h1, h2⟩ := entsAt_owns h
  refine ⟨ao, cap, rfl, hat, h1, h2, fun b off hb => ?_⟩
  subst hb
  exact (h.lt b rfl).1
theorem two_take2t {H : ByteArray → ByteArray} (hS : SumLaw H) {X p q : Nat} {s1 s2 : Fd.State} {w : World} (h : Two X p q s1 s2 w) (head : ByteArray) (es : List Fd.Ent) (eo : Option Addr) (cap : Nat) (hfit : es.length ≤ cap ∧ cap ≤ maxLen) (hc : EntsAt w eo es) (hl : s2.all.length + es.length ≤ 1000000) (hh : s2.head.size ≤ 32) :
    Calls Try.prog 36 #[.pointer (some ⟨q, 0, none⟩), .string head, .slice eo es.length cap] w fun e w' => e = .returned (.int .i64 (takeR H s2 head es).2) ∧ Two X p q s1 (takeR H s2 head es).1 w' ∧ Below X w w' ∧ Turned (fun k => k = q) w w' := by
  obtain ⟨v, u, S, T, h1, h2, h3, h4, h5, h6, h7⟩ := h.both
  refine (take_cap hS T q s2 u head es eo cap w h2 hfit hc hl hh).mono ?_
  rintro e w' ⟨rfl, v', hf, ht⟩
  refine ⟨rfl, ⟨⟨v, v', S, _, h1.turned ht (fun k hk _ hq => h5 k hk (by rw [hq]; exact h2.mine.1)), hf.exact, fun k hk => Nat.lt_of_lt_of_le (h3 k hk) ht.size, fun k hk => hk.2, fun k hk ht2 => ?_, h6, fun k hk => ?_⟩, Nat.le_trans h.low ht.size⟩, ht.below (fun k hk => by rw [hk]; exact h7 q h2.mine.1) h.low, ht⟩
  · rcases ht2.1 with h | h
    · exact h5 k hk h
    · have := h3 k hk; omega
  · rcases hk.1 with h' | h'
    · exact h7 k h'
    · exact Nat.le_trans h.low h'
theorem Two.lt2 {X p q : Nat} {s1 s2 : Fd.State} {w : World} (h : Two X p q s1 s2 w) : q < w.heap.size := by
  obtain ⟨_, _, hf⟩ := h.right
  exact hf.lt
end Go.Proofs.Ytbajgpbekanodaa
