/- The mathematics of frames (layer 20): what is framed, taken, scanned. Nothing of the program. -/
import Derived.Test.YtbhadaiijcdlkaaOctBackM
import Derived.Test.YtbhadaiijcdlkaaCrcMath
namespace Go.Proofs.Ytbhadaiijcdlkaa
namespace Frm

/-- A number in four bytes. -/
def fourB (v : Nat) : ByteArray := ⟨(Oct.be 4 v).toArray⟩
/-- A text's sum in four bytes. -/
def sumB (t : ByteArray) : ByteArray := fourB (Crc.sumL [t])
/-- The frame of a body. -/
def frB (s : ByteArray) : ByteArray := Oct.textB s ++ sumB (Oct.textB s)
theorem fourB_size (v : Nat) : (fourB v).size = 4 := by show (Oct.be 4 v).toArray.size = 4; rw [List.size_toArray, Oct.be_length]
theorem sumB_size (t : ByteArray) : (sumB t).size = 4 := fourB_size _
theorem frB_size (t : ByteArray) : (frB t).size = (Oct.textB t).size + 4 := by unfold frB; rw [ByteArray.size_append, sumB_size]
theorem textB_pos (t : ByteArray) : 0 < (Oct.textB t).size := by
  unfold Oct.textB; rw [ByteArray.size_append, Oct.numB_size]; have := Oct.num_length_pos t.size; omega
theorem textB_le (t : ByteArray) : (Oct.textB t).size ≤ 9 + t.size := by
  unfold Oct.textB; rw [ByteArray.size_append]; have := Oct.numB_le t.size; omega
theorem le_textB (t : ByteArray) : t.size ≤ (Oct.textB t).size := by
  unfold Oct.textB; rw [ByteArray.size_append]; omega

/-- A frame taken. -/
def ftB (s : ByteArray) (p : Int) : ByteArray × Nat × Nat :=
  let r := Oct.ttB s p
  if r.2.2 ≠ 0 then (ByteArray.empty, 0, r.2.2)
  else if 20000 < r.1.size then (ByteArray.empty, 0, 3)
  else if s.size - r.2.1 < 4 then (ByteArray.empty, 0, 10)
  else if sumB (Oct.textB r.1) ≠ s.extract r.2.1 (r.2.1 + 4) then (ByteArray.empty, 0, 200)
  else (r.1, r.2.1 + 4, 0)
/-- Frames, one behind the other. -/
def frS : List ByteArray → ByteArray
  | [] => ByteArray.empty
  | t :: r => frB t ++ frS r
/-- Some bodies framed, or refused. -/
def mkB (l : List ByteArray) : ByteArray × Nat := if l.all (fun t => decide (t.size ≤ 20000)) then (frS l, 0) else (ByteArray.empty, 3)
/-- Frames taken from a place on, at most so many, onto what has been taken. -/
def scF (s : ByteArray) : Nat → Nat → List ByteArray → List ByteArray × Nat
  | 0, p, acc => (acc, p)
  | n + 1, p, acc => let r := ftB s p; if r.2.2 ≠ 0 then (acc, p) else scF s n r.2.1 (acc ++ [r.1])
def scB (s : ByteArray) : List ByteArray × Nat := scF s (s.size + 1) 0 []

/-! ### One frame -/
theorem ftB_form {s : ByteArray} {p : Int} {t : ByteArray} {q : Nat} (h : ftB s p = (t, q, 0)) : ∃ P : Nat, p = (P : Int) ∧ P + 5 ≤ q ∧ q ≤ s.size ∧ t.size ≤ 20000 ∧ frB t = s.extract P q := by
  unfold ftB at h
  simp only at h
  cases hx : Oct.ttB s p with
  | mk u r =>
    obtain ⟨q1, e⟩ := r
    rw [hx] at h
    simp only at h
    by_cases he : e = 0
    · subst he
      obtain ⟨P, rfl, h1, h2, h3, h4⟩ := Oct.ttB_form hx
      rw [if_neg (by simp)] at h
      split at h
      · simp at h
      · rename_i hs
        split at h
        · simp at h
        · rename_i hl
          split at h
          · simp at h
          · rename_i hc
            simp only [Prod.mk.injEq, and_true] at h
            obtain ⟨rfl, rfl⟩ := h
            refine ⟨P, rfl, by omega, by omega, by omega, ?_⟩
            unfold frB
            rw [Decidable.not_not.1 hc, h4]
            exact Oct.cut_join s P q1 (q1 + 4) (by omega) (by omega)
    · rw [if_pos he] at h
      simp only [Prod.mk.injEq] at h
      exact absurd h.2.2 he
theorem ftB_err {s : ByteArray} {p : Int} (h : (ftB s p).2.2 ≠ 0) : ftB s p = (ByteArray.empty, 0, (ftB s p).2.2) := by
  unfold ftB at h ⊢
  simp only at h ⊢
  repeat' split
  all_goals simp_all
theorem ftB_le (s : ByteArray) (p : Int) : (ftB s p).2.1 ≤ s.size ∧ (ftB s p).1.size ≤ 20000 := by
  by_cases h : (ftB s p).2.2 = 0
  · obtain ⟨P, _, _, h2, h3, _⟩ := ftB_form (s := s) (p := p) (t := (ftB s p).1) (q := (ftB s p).2.1) (by rw [← h])
    exact ⟨h2, h3⟩
  · rw [ftB_err h]; simp
theorem ftB_laid (x t y : ByteArray) (h : t.size ≤ 20000) : ftB (x ++ frB t ++ y) (x.size : Int) = (t, x.size + (frB t).size, 0) := by
  have e1 : x ++ frB t ++ y = x ++ Oct.textB t ++ (sumB (Oct.textB t) ++ y) := by unfold frB; simp only [ByteArray.append_assoc]
  have e2 : x ++ Oct.textB t ++ (sumB (Oct.textB t) ++ y) = (x ++ Oct.textB t) ++ sumB (Oct.textB t) ++ y := by simp only [ByteArray.append_assoc]
  have hc := Oct.cut_mid (x ++ Oct.textB t) (sumB (Oct.textB t)) y
  rw [sumB_size, ByteArray.size_append] at hc
  unfold ftB
  rw [e1, Oct.ttB_laid x t _ (by omega)]
  simp only [ne_eq, not_true_eq_false, if_false]
  rw [if_neg (by omega), e2, hc, if_neg (by simp only [ByteArray.size_append, sumB_size]; omega), if_neg (by simp), frB_size]
  simp only [Prod.mk.injEq, true_and, and_true]
  omega

/-! ### Behind others -/
theorem tnB_shift (x y : ByteArray) : Oct.tnB (x ++ y) (x.size : Int) = if (Oct.tnB y 0).2.2 = 0 then ((Oct.tnB y 0).1, x.size + (Oct.tnB y 0).2.1, 0) else (0, 0, (Oct.tnB y 0).2.2) := by
  have hl : x.data.toList.length = x.size := by simp
  have h1 := Oct.tn_append x.data.toList y.data.toList
  rw [hl] at h1
  have h0 : Oct.tnB y 0 = Oct.tn y.data.toList 0 := by unfold Oct.tnB Oct.tnI; rw [if_neg (by omega)]; rfl
  rw [h0]
  unfold Oct.tnB Oct.tnI
  rw [Oct.data_join, if_neg (by simp; omega), Int.toNat_natCast, h1]
theorem cut_behind (x y : ByteArray) (a b : Nat) : (x ++ y).extract (x.size + a) (x.size + b) = y.extract a b := by
  have h : ((x ++ y).extract (x.size + a) (x.size + b)).data.toList = (y.extract a b).data.toList := by
    have hl : x.data.toList.length = x.size := by simp
    rw [Oct.cut_list, Oct.cut_list, Oct.data_join, ← hl, ← List.drop_drop, List.drop_left]
    congr 1
    omega
  exact ByteArray.ext (Array.toList_inj.1 h)
theorem ttB_shift (x y : ByteArray) : Oct.ttB (x ++ y) (x.size : Int) = if (Oct.ttB y 0).2.2 = 0 then ((Oct.ttB y 0).1, x.size + (Oct.ttB y 0).2.1, 0) else (ByteArray.empty, 0, (Oct.ttB y 0).2.2) := by
  unfold Oct.ttB
  rw [tnB_shift]
  by_cases h : (Oct.tnB y 0).2.2 = 0
  · rw [if_pos h]
    simp only [h, ne_eq, not_true_eq_false, if_false, ByteArray.size_append]
    rw [show x.size + y.size - (x.size + (Oct.tnB y 0).2.1) = y.size - (Oct.tnB y 0).2.1 by omega]
    by_cases h2 : y.size - (Oct.tnB y 0).2.1 < (Oct.tnB y 0).1
    · simp [h2]
    · simp only [h2, if_false, if_true]
      rw [Nat.add_assoc, cut_behind]
  · rw [if_neg h]; simp [h]
theorem ftB_shift (x y : ByteArray) : ftB (x ++ y) (x.size : Int) = if (ftB y 0).2.2 = 0 then ((ftB y 0).1, x.size + (ftB y 0).2.1, 0) else (ByteArray.empty, 0, (ftB y 0).2.2) := by
  unfold ftB
  rw [ttB_shift]
  by_cases h : (Oct.ttB y 0).2.2 = 0
  · rw [if_pos h]
    simp only [h, ne_eq, not_true_eq_false, if_false, ByteArray.size_append]
    by_cases h2 : 20000 < (Oct.ttB y 0).1.size
    · simp [h2]
    · simp only [h2, if_false]
      rw [show x.size + y.size - (x.size + (Oct.ttB y 0).2.1) = y.size - (Oct.ttB y 0).2.1 by omega]
      by_cases h3 : y.size - (Oct.ttB y 0).2.1 < 4
      · simp [h3]
      · simp only [h3, if_false]
        rw [Nat.add_assoc, cut_behind]
        by_cases h4 : sumB (Oct.textB (Oct.ttB y 0).1) = y.extract (Oct.ttB y 0).2.1 ((Oct.ttB y 0).2.1 + 4)
        · simp only [← h4, not_true_eq_false, if_false, if_true]
        · simp [h4]
  · rw [if_neg h]; simp [h]
theorem ftB_empty : (ftB ByteArray.empty 0).2.2 ≠ 0 := by decide +kernel

/-! ### Many -/
theorem frS_append (a b : List ByteArray) : frS (a ++ b) = frS a ++ frS b := by
  induction a with
  | nil => unfold frS; simp
  | cons t r ih => show frB t ++ frS (r ++ b) = frB t ++ frS r ++ frS b; rw [ih, ByteArray.append_assoc]
theorem frS_one (t : ByteArray) : frS [t] = frB t := by unfold frS frS; simp
theorem scF_laid (l : List ByteArray) : ∀ (x y : ByteArray) (n : Nat) (acc : List ByteArray), (∀ t ∈ l, t.size ≤ 20000) →
    scF (x ++ frS l ++ y) (l.length + n) x.size acc = scF (x ++ frS l ++ y) n (x.size + (frS l).size) (acc ++ l) := by
  induction l with
  | nil => intro x y n acc _; unfold frS; simp
  | cons t r ih =>
    intro x y n acc h
    have e1 : x ++ frS (t :: r) ++ y = x ++ frB t ++ (frS r ++ y) := by
      show x ++ (frB t ++ frS r) ++ y = _
      simp only [ByteArray.append_assoc]
    have e2 : x ++ frB t ++ (frS r ++ y) = (x ++ frB t) ++ frS r ++ y := by simp only [ByteArray.append_assoc]
    have h1 := ftB_laid x t (frS r ++ y) (h t (by simp))
    have h2 := ih (x ++ frB t) y n (acc ++ [t]) (fun u hu => h u (by simp [hu]))
    rw [e1, List.length_cons, show r.length + 1 + n = (r.length + n) + 1 by omega]
    rw [scF, h1]
    simp only [ne_eq, not_true_eq_false, if_false]
    rw [e2]
    rw [ByteArray.size_append] at h2
    rw [h2]
    simp only [List.append_assoc, List.singleton_append]
    congr 1
    show _ = x.size + (frB t ++ frS r).size
    rw [ByteArray.size_append]
    omega
/-- Where fuel enough is left, its amount is of no matter. -/
theorem scF_fuel (s : ByteArray) : ∀ (n m p : Nat) (acc : List ByteArray), s.size < p + n → s.size < p + m → p ≤ s.size → scF s n p acc = scF s m p acc := by
  intro n
  induction n with
  | zero => intro m p acc h1 _ h3; omega
  | succ n ih =>
    intro m p acc h1 h2 h3
    cases m with
    | zero => omega
    | succ m =>
      rw [scF, scF]
      by_cases he : (ftB s p).2.2 = 0
      · simp only [he, ne_eq, not_true_eq_false, if_false]
        obtain ⟨P, hP, h4, h5, _⟩ := ftB_form (s := s) (p := p) (t := (ftB s p).1) (q := (ftB s p).2.1) (by rw [← he])
        exact ih m _ _ (by omega) (by omega) h5
      · simp only [ne_eq, he, not_false_eq_true, if_true]
theorem scF_stop (s : ByteArray) (n p : Nat) (acc : List ByteArray) (h : (ftB s p).2.2 ≠ 0) : scF s (n + 1) p acc = (acc, p) := by
  rw [scF, if_pos h]
theorem scF_grows (s : ByteArray) : ∀ (n p : Nat) (acc : List ByteArray), p ≤ s.size → p ≤ (scF s n p acc).2 ∧ (scF s n p acc).2 ≤ s.size ∧
    ∃ ts, (scF s n p acc).1 = acc ++ ts ∧ (∀ t ∈ ts, t.size ≤ 20000) ∧ frS ts = s.extract p (scF s n p acc).2 ∧ 5 * ts.length ≤ (scF s n p acc).2 - p := by
  intro n
  induction n with
  | zero => intro p acc h; rw [scF]; exact ⟨Nat.le_refl _, h, [], by simp, by simp, by unfold frS; simp, by simp⟩
  | succ n ih =>
    intro p acc h
    rw [scF]
    by_cases he : (ftB s p).2.2 = 0
    · simp only [he, ne_eq, not_true_eq_false, if_false]
      obtain ⟨P, hP, h4, h5, h6, h7⟩ := ftB_form (s := s) (p := p) (t := (ftB s p).1) (q := (ftB s p).2.1) (by rw [← he])
      have hPp : P = p := by omega
      subst hPp
      obtain ⟨i1, i2, ts, i3, i4, i5, i6⟩ := ih (ftB s P).2.1 (acc ++ [(ftB s P).1]) h5
      refine ⟨by omega, i2, (ftB s P).1 :: ts, by rw [i3]; simp, ?_, ?_, by simp; omega⟩
      · intro t ht
        rcases List.mem_cons.1 ht with rfl | ht
        · exact h6
        · exact i4 t ht
      · show frB _ ++ frS ts = _
        rw [h7, i5]
        exact Oct.cut_join s P _ _ (by omega) (by omega)
    · simp only [ne_eq, he, not_false_eq_true, if_true]
      exact ⟨Nat.le_refl _, h, [], by simp, by simp, by unfold frS; simp, by simp⟩
theorem frS_len (l : List ByteArray) : 5 * l.length ≤ (frS l).size := by
  induction l with
  | nil => simp
  | cons t r ih =>
    show _ ≤ (frB t ++ frS r).size
    rw [ByteArray.size_append, frB_size]
    have := textB_pos t
    simp; omega

/-! ### The laws -/
/-- What is told of framed bodies with something behind that is no frame. -/
theorem scB_stop (l : List ByteArray) (y : ByteArray) (h : ∀ t ∈ l, t.size ≤ 20000) (hy : (ftB y 0).2.2 ≠ 0) : scB (frS l ++ y) = (l, (frS l).size) := by
  have hz : (ftB (frS l ++ y) ((frS l).size : Int)).2.2 ≠ 0 := by rw [ftB_shift, if_neg hy]; exact hy
  have h0 := frS_len l
  have h1 := scF_laid l ByteArray.empty y ((frS l ++ y).size + 1) [] h
  have e0 : ByteArray.empty ++ frS l ++ y = frS l ++ y := by simp
  rw [e0] at h1
  have h2 := scF_fuel (frS l ++ y) ((frS l ++ y).size + 1) (l.length + ((frS l ++ y).size + 1)) 0 [] (by omega) (by omega) (by omega)
  unfold scB
  have e1 : ByteArray.empty.size = 0 := rfl
  rw [e1] at h1
  rw [h2, h1, Nat.zero_add, List.nil_append]
  exact scF_stop _ _ _ _ hz
theorem scB_frS (l : List ByteArray) (h : ∀ t ∈ l, t.size ≤ 20000) : scB (frS l) = (l, (frS l).size) := by
  have := scB_stop l ByteArray.empty h ftB_empty
  rwa [ByteArray.append_empty] at this
theorem scB_more (l : List ByteArray) (y : ByteArray) (h : ∀ t ∈ l, t.size ≤ 20000) : ∃ ts, (scB (frS l ++ y)).1 = l ++ ts := by
  have h0 := frS_len l
  have h1 := scF_laid l ByteArray.empty y ((frS l ++ y).size + 1) [] h
  have e0 : ByteArray.empty ++ frS l ++ y = frS l ++ y := by simp
  rw [e0] at h1
  have h2 := scF_fuel (frS l ++ y) ((frS l ++ y).size + 1) (l.length + ((frS l ++ y).size + 1)) 0 [] (by omega) (by omega) (by omega)
  have e1 : ByteArray.empty.size = 0 := rfl
  rw [e1] at h1
  rw [Nat.zero_add, List.nil_append] at h1
  obtain ⟨_, _, ts, h3, _⟩ := scF_grows (frS l ++ y) ((frS l ++ y).size + 1) (frS l).size l (by rw [ByteArray.size_append]; omega)
  refine ⟨ts, ?_⟩
  unfold scB
  rw [h2, h1]
  exact h3
/-- No beginning of a frame is a frame. -/
theorem ftB_part (t x : ByteArray) (n : Nat) (ht : t.size ≤ 20000) (hn : n < (frB t).size) (hx : x = (frB t).extract 0 n) : (ftB x 0).2.2 ≠ 0 := by
  intro he
  obtain ⟨P, hP, h4, h5, h6, h7⟩ := ftB_form (s := x) (p := 0) (t := (ftB x 0).1) (q := (ftB x 0).2.1) (by rw [← he])
  have hP0 : P = 0 := by omega
  subst hP0
  generalize (ftB x 0).1 = u at *
  generalize (ftB x 0).2.1 = q at *
  have hxs : x.size = n := by rw [hx, ByteArray.size_extract]; omega
  have e1 : frB t = ByteArray.empty ++ frB u ++ (frB t).extract q (frB t).size := by
    have : frB u = (frB t).extract 0 q := by
      rw [h7, hx]
      apply ByteArray.ext
      rw [ByteArray.data_extract, ByteArray.data_extract, ByteArray.data_extract, Array.extract_extract]
      congr 1
      omega
    rw [ByteArray.empty_append, this, Oct.cut_join _ _ _ _ (Nat.zero_le _) (by omega)]
    simp
  have l1 := ftB_laid ByteArray.empty t ByteArray.empty ht
  have l2 := ftB_laid ByteArray.empty u ((frB t).extract q (frB t).size) h6
  rw [← e1] at l2
  rw [ByteArray.append_empty, ByteArray.empty_append] at l1
  rw [l2] at l1
  simp only [Prod.mk.injEq, and_true] at l1
  have h8 : (frB u).size = q := by rw [h7, ByteArray.size_extract]; omega
  have e0 : ByteArray.empty.size = 0 := rfl
  omega
/-- What is told of a beginning of framed bodies. -/
theorem scB_cut (l : List ByteArray) (cut n : Nat) (h : ∀ t ∈ l, t.size ≤ 20000) (hn : n ≤ l.length) (hlo : (frS (l.take n)).size ≤ cut) (hhi : n < l.length → cut < (frS (l.take n)).size + (frB (l.getD n ByteArray.empty)).size) (_ : cut ≤ (frS l).size) :
    scB ((frS l).extract 0 cut) = (l.take n, (frS (l.take n)).size) := by
  have e0 : frS l = frS (l.take n) ++ frS (l.drop n) := by rw [← frS_append, List.take_append_drop]
  have hm : ∀ t ∈ l.take n, t.size ≤ 20000 := fun t ht => h t (List.mem_of_mem_take ht)
  have e1 : (frS l).extract 0 cut = frS (l.take n) ++ (frS (l.drop n)).extract 0 (cut - (frS (l.take n)).size) := by
    have a1 := Oct.cut_join (frS l) 0 (frS (l.take n)).size cut (Nat.zero_le _) hlo
    have a2 := cut_behind (frS (l.take n)) (frS (l.drop n)) 0 (cut - (frS (l.take n)).size)
    rw [← e0, Nat.add_zero, show (frS (l.take n)).size + (cut - (frS (l.take n)).size) = cut by omega] at a2
    rw [← a1, a2]
    congr 1
    rw [e0]
    have a3 := Oct.cut_mid ByteArray.empty (frS (l.take n)) (frS (l.drop n))
    rw [ByteArray.empty_append] at a3
    have e2 : ByteArray.empty.size = 0 := rfl
    rw [e2, Nat.zero_add] at a3
    exact a3
  rw [e1]
  by_cases hnl : n < l.length
  · refine scB_stop _ _ hm ?_
    have hd := List.drop_eq_getElem_cons hnl
    have hg : l.getD n ByteArray.empty = l[n] := by simp [List.getD, hnl]
    have h2 := hhi hnl
    rw [hg] at h2
    refine ftB_part l[n] _ (cut - (frS (l.take n)).size) (h _ (List.getElem_mem hnl)) (by omega) ?_
    rw [hd]
    show (frB l[n] ++ frS (l.drop (n + 1))).extract 0 _ = _
    apply ByteArray.ext
    apply Array.toList_inj.1
    rw [Oct.cut_list, Oct.cut_list, Oct.data_join]
    simp only [List.drop_zero, Nat.sub_zero]
    rw [List.take_append_of_le_length]
    have : (frB l[n]).data.toList.length = (frB l[n]).size := by simp
    omega
  · have hln : l.drop n = [] := List.drop_of_length_le (by omega)
    rw [hln]
    have : (frS []).extract 0 (cut - (frS (l.take n)).size) = ByteArray.empty := by
      apply ByteArray.ext; unfold frS; simp
    rw [this]
    exact scB_stop _ _ hm ftB_empty
theorem scB_form (s : ByteArray) : (scB s).2 ≤ s.size ∧ (∀ t ∈ (scB s).1, t.size ≤ 20000) ∧ frS (scB s).1 = s.extract 0 (scB s).2 ∧ 5 * (scB s).1.length ≤ s.size := by
  obtain ⟨h1, h2, ts, h3, h4, h5, h6⟩ := scF_grows s (s.size + 1) 0 [] (Nat.zero_le _)
  unfold scB
  rw [List.nil_append] at h3
  rw [h3]
  exact ⟨h2, h4, h5, by omega⟩
/-- Where the place told stands, that is the end. -/
theorem scF_step (s : ByteArray) (n p : Nat) (acc : List ByteArray) (R : List ByteArray × Nat) (h : scF s n p acc = R) (hn : s.size < p + n) (hp : p ≤ s.size) :
    ((ftB s p).2.2 ≠ 0 → R = (acc, p)) ∧ ((ftB s p).2.2 = 0 → p < (ftB s p).2.1 ∧ (ftB s p).2.1 ≤ s.size ∧ ∃ m, m + 1 = n ∧ scF s m (ftB s p).2.1 (acc ++ [(ftB s p).1]) = R ∧ s.size < (ftB s p).2.1 + m) := by
  cases n with
  | zero => omega
  | succ m =>
    rw [scF] at h
    refine ⟨fun he => by rw [if_pos he] at h; exact h.symm, fun he => ?_⟩
    rw [if_neg (by omega)] at h
    obtain ⟨P, hP, h4, h5, _⟩ := ftB_form (s := s) (p := p) (t := (ftB s p).1) (q := (ftB s p).2.1) (by rw [← he])
    exact ⟨by omega, h5, m, rfl, h, by omega⟩

/-! ### Small lists -/
def wt (l : List ByteArray) : Nat := l.foldl (fun n s => n + (min s.size 100000 + 9)) 0
theorem wt_snoc (l : List ByteArray) (s : ByteArray) : wt (l ++ [s]) = wt l + (min s.size 100000 + 9) := by unfold wt; rw [List.foldl_append]; rfl
theorem wt_take (l : List ByteArray) (k : Nat) (h : k < l.length) : wt (l.take (k + 1)) = wt (l.take k) + (min (l.getD k ByteArray.empty).size 100000 + 9) := by
  rw [List.take_succ_eq_append_getElem h, wt_snoc]
  simp [List.getD, h]
theorem foldl_wt (l : List ByteArray) : ∀ n : Nat, l.foldl (fun n s => n + (min s.size 100000 + 9)) n = n + wt l := by
  induction l with
  | nil => intro n; simp [wt]
  | cons s r ih =>
    intro n
    rw [List.foldl_cons, ih]
    have : wt (s :: r) = (0 + (min s.size 100000 + 9)) + wt r := by unfold wt; rw [List.foldl_cons, ih]; rfl
    rw [this]; omega
theorem wt_cons (s : ByteArray) (r : List ByteArray) : wt (s :: r) = (min s.size 100000 + 9) + wt r := by
  have h := foldl_wt r (0 + (min s.size 100000 + 9))
  have e : wt (s :: r) = r.foldl (fun n s => n + (min s.size 100000 + 9)) (0 + (min s.size 100000 + 9)) := rfl
  rw [e, h]; omega
theorem wt_append (a b : List ByteArray) : wt (a ++ b) = wt a + wt b := by
  induction a with
  | nil => simp [wt]
  | cons s r ih => rw [List.cons_append, wt_cons, ih, wt_cons]; omega
theorem wt_take_le (l : List ByteArray) (k : Nat) : wt (l.take k) ≤ wt l := by
  have := wt_append (l.take k) (l.drop k)
  rw [List.take_append_drop] at this
  omega
def smallB (l : List ByteArray) : Bool := decide (wt l ≤ 60000)
theorem small_no (l : List ByteArray) (k : Nat) (h : 60000 < wt (l.take k)) : smallB l = false := by
  have := wt_take_le l k
  unfold smallB
  simp; omega
theorem small_each {l : List ByteArray} (h : wt l ≤ 60000) : 9 * l.length ≤ 60000 ∧ ∀ t ∈ l, t.size ≤ 60000 := by
  have hlen : ∀ m : List ByteArray, 9 * m.length ≤ wt m := by
    intro m
    induction m with
    | nil => simp
    | cons s r ih => rw [wt_cons]; simp; omega
  have hm : ∀ m : List ByteArray, wt m ≤ 60000 → ∀ t ∈ m, t.size ≤ 60000 := by
    intro m
    induction m with
    | nil => simp
    | cons s r ih =>
      intro h t ht
      rw [wt_cons] at h
      rcases List.mem_cons.1 ht with rfl | ht
      · omega
      · exact ih (by omega) t ht
  exact ⟨by have := hlen l; omega, hm l h⟩
theorem frS_small {l : List ByteArray} (h : wt l ≤ 60000) : (frS l).size ≤ 200000 := by
  have key : ∀ m : List ByteArray, wt m ≤ 60000 → (frS m).size ≤ wt m + 4 * m.length := by
    intro m
    induction m with
    | nil => intro _; simp [frS]
    | cons s r ih =>
      intro h
      rw [wt_cons] at h ⊢
      show (frB s ++ frS r).size ≤ _
      rw [ByteArray.size_append, frB_size]
      have := textB_le s
      have := ih (by omega)
      simp; omega
  have := key l h
  have := (small_each h).1
  omega
end Frm
end Go.Proofs.Ytbhadaiijcdlkaa
