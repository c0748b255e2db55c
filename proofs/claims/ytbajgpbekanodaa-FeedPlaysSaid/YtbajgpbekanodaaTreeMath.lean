/- The mathematics of trees of digests, over whatever digest; of digits. Nothing of the program. -/
import Derived.Test.YtbajgpbekanodaaOctBackM
import Derived.Lib.BitFns
namespace Go.Proofs.Ytbajgpbekanodaa
namespace Tre

/-- The greatest power of two below a number above 1. -/
def half (n : Nat) : Nat := 2 ^ (Lib.bitLen (n - 1) - 1)
theorem bitLen_bounds (x : Nat) (h0 : x ≠ 0) (h : x < 2 ^ 64) : 1 ≤ Lib.bitLen x ∧ Lib.bitLen x ≤ 64 ∧ 2 ^ (Lib.bitLen x - 1) ≤ x ∧ x < 2 ^ Lib.bitLen x := by
  have h64 := Lib.bitLen_le x 64 (Nat.le_refl _) h
  suffices h2 : 1 ≤ Lib.bitLen x ∧ 2 ^ (Lib.bitLen x - 1) ≤ x ∧ x < 2 ^ Lib.bitLen x from ⟨h2.1, h64, h2.2⟩
  clear h64
  induction x using Nat.strongRecOn with
  | _ x ih =>
    have hb := Lib.bitLen_half x h0 h
    by_cases h1 : x / 2 = 0
    · have e : Lib.bitLen (x / 2) = 0 := by rw [h1]; decide
      rw [e] at hb
      rw [hb]
      simp
      omega
    · have := ih (x / 2) (by omega) h1 (by omega)
      obtain ⟨a, b, c⟩ := this
      rw [hb]
      obtain ⟨m, hm⟩ : ∃ m, Lib.bitLen (x / 2) = m + 1 := ⟨Lib.bitLen (x / 2) - 1, by omega⟩
      rw [hm] at b c ⊢
      have e1 : 1 + (m + 1) - 1 = m + 1 := by omega
      have e2 : 1 + (m + 1) = m + 1 + 1 := by omega
      rw [e1, e2]
      rw [show m + 1 - 1 = m by omega] at b
      rw [Nat.pow_succ] at c ⊢
      have e3 : 2 ^ (m + 1) = 2 ^ m * 2 := Nat.pow_succ _ _
      omega
theorem half_bounds {n : Nat} (h : 2 ≤ n) (hn : n < 2 ^ 64) : 1 ≤ half n ∧ half n < n ∧ n ≤ 2 * half n := by
  obtain ⟨a, _, b, c⟩ := bitLen_bounds (n - 1) (by omega) (by omega)
  unfold half
  have hp : 0 < 2 ^ (Lib.bitLen (n - 1) - 1) := Nat.pow_pos (by omega)
  obtain ⟨m, hm⟩ : ∃ m, Lib.bitLen (n - 1) = m + 1 := ⟨Lib.bitLen (n - 1) - 1, by omega⟩
  rw [hm] at b c hp ⊢
  rw [show m + 1 - 1 = m by omega] at b hp ⊢
  rw [Nat.pow_succ] at c
  omega

def leafB (s : ByteArray) : ByteArray := ⟨#[0]⟩ ++ s
def nodeB (a b : ByteArray) : ByteArray := ⟨#[1]⟩ ++ a ++ b
theorem leafB_size (s : ByteArray) : (leafB s).size = 1 + s.size := by unfold leafB; rw [ByteArray.size_append]; rfl
theorem nodeB_size (a b : ByteArray) : (nodeB a b).size = 1 + a.size + b.size := by unfold nodeB; rw [ByteArray.size_append, ByteArray.size_append]; rfl
theorem app_inj {a b c d : ByteArray} (h : a ++ b = c ++ d) (hl : a.size = c.size) : a = c ∧ b = d := by
  have h1 := congrArg (fun x : ByteArray => x.data.toList) h
  simp only [Oct.data_join] at h1
  have ha : a.data.toList.length = a.size := by simp
  have hc : c.data.toList.length = c.size := by simp
  obtain ⟨h2, h3⟩ := List.append_inj h1 (by omega)
  exact ⟨ByteArray.ext (Array.toList_inj.1 h2), ByteArray.ext (Array.toList_inj.1 h3)⟩
theorem leafB_inj {a b : ByteArray} (h : leafB a = leafB b) : a = b := (app_inj h rfl).2
theorem nodeB_inj {a b c d : ByteArray} (h : nodeB a b = nodeB c d) (hl : a.size = c.size) : a = c ∧ b = d := by
  unfold nodeB at h
  rw [ByteArray.append_assoc, ByteArray.append_assoc] at h
  exact app_inj (app_inj h rfl).2 hl

variable (H : ByteArray → ByteArray)
/-- The root of leaves. -/
def rootF : Nat → List ByteArray → ByteArray
  | 0, _ => H ByteArray.empty
  | f + 1, l =>
    match l with
    | [] => H ByteArray.empty
    | [s] => H (leafB s)
    | l => H (nodeB (rootF f (l.take (half l.length))) (rootF f (l.drop (half l.length))))
def rootB (l : List ByteArray) : ByteArray := rootF H l.length l
theorem rootF_many (f : Nat) (l : List ByteArray) (h : 2 ≤ l.length) : rootF H (f + 1) l = H (nodeB (rootF H f (l.take (half l.length))) (rootF H f (l.drop (half l.length)))) := by
  match l, h with
  | a :: b :: r, _ => rfl
theorem rootF_fuel (f : Nat) : ∀ (g : Nat) (l : List ByteArray), l.length ≤ f → l.length ≤ g → l.length < 2 ^ 64 → rootF H f l = rootF H g l := by
  induction f with
  | zero =>
    intro g l h1 _ _
    have : l = [] := List.eq_nil_of_length_eq_zero (by omega)
    subst this
    cases g <;> rfl
  | succ f ih =>
    intro g l h1 h2 h3
    cases g with
    | zero =>
      have : l = [] := List.eq_nil_of_length_eq_zero (by omega)
      subst this
      rfl
    | succ g =>
      by_cases h : 2 ≤ l.length
      · obtain ⟨a, b, c⟩ := half_bounds h h3
        rw [rootF_many H f l h, rootF_many H g l h, ih g (l.take (half l.length)) (by rw [List.length_take]; omega) (by rw [List.length_take]; omega) (by rw [List.length_take]; omega),
          ih g (l.drop (half l.length)) (by rw [List.length_drop]; omega) (by rw [List.length_drop]; omega) (by rw [List.length_drop]; omega)]
      · match l, h with
        | [], _ => rfl
        | [s], _ => rfl
        | _ :: _ :: _, h => simp at h
theorem rootB_nil : rootB H [] = H ByteArray.empty := rfl
theorem rootB_one (s : ByteArray) : rootB H [s] = H (leafB s) := rfl
theorem rootB_many (l : List ByteArray) (h : 2 ≤ l.length) (h3 : l.length < 2 ^ 64) : rootB H l = H (nodeB (rootB H (l.take (half l.length))) (rootB H (l.drop (half l.length)))) := by
  obtain ⟨a, b, c⟩ := half_bounds h h3
  obtain ⟨f, hf⟩ : ∃ f, l.length = f + 1 := ⟨l.length - 1, by omega⟩
  have e1 := rootF_fuel H f (l.take (half l.length)).length (l.take (half l.length)) (by rw [List.length_take]; omega) (Nat.le_refl _) (by rw [List.length_take]; omega)
  have e2 := rootF_fuel H f (l.drop (half l.length)).length (l.drop (half l.length)) (by rw [List.length_drop]; omega) (Nat.le_refl _) (by rw [List.length_drop]; omega)
  unfold rootB
  rw [← e1, ← e2]
  conv => lhs; rw [hf]
  exact rootF_many H f l h

/-- The proof of a leaf that is there. -/
def proofF : Nat → Nat → List ByteArray → List ByteArray
  | 0, _, _ => []
  | f + 1, i, l =>
    if l.length < 2 then []
    else if i < half l.length then proofF f i (l.take (half l.length)) ++ [rootB H (l.drop (half l.length))]
    else proofF f (i - half l.length) (l.drop (half l.length)) ++ [rootB H (l.take (half l.length))]
def proofB (i : Nat) (l : List ByteArray) : List ByteArray := proofF H l.length i l
theorem proofF_fuel (f : Nat) : ∀ (g i : Nat) (l : List ByteArray), l.length ≤ f → l.length ≤ g → l.length < 2 ^ 64 → proofF H f i l = proofF H g i l := by
  induction f with
  | zero =>
    intro g i l h1 _ _
    cases g with
    | zero => rfl
    | succ g => rw [proofF, proofF, if_pos (by omega)]
  | succ f ih =>
    intro g i l h1 h2 h3
    cases g with
    | zero => rw [proofF, proofF, if_pos (by omega)]
    | succ g =>
      rw [proofF, proofF]
      by_cases h : l.length < 2
      · rw [if_pos h, if_pos h]
      · obtain ⟨a, b, c⟩ := half_bounds (n := l.length) (by omega) h3
        rw [if_neg h, if_neg h, ih g i (l.take (half l.length)) (by rw [List.length_take]; omega) (by rw [List.length_take]; omega) (by rw [List.length_take]; omega),
          ih g (i - half l.length) (l.drop (half l.length)) (by rw [List.length_drop]; omega) (by rw [List.length_drop]; omega) (by rw [List.length_drop]; omega)]
theorem proofB_few (i : Nat) (l : List ByteArray) (h : l.length < 2) : proofB H i l = [] := by
  unfold proofB
  cases hl : l.length with
  | zero => rfl
  | succ f => rw [proofF, if_pos h]
theorem proofB_many (i : Nat) (l : List ByteArray) (h : 2 ≤ l.length) (h3 : l.length < 2 ^ 64) : proofB H i l =
    if i < half l.length then proofB H i (l.take (half l.length)) ++ [rootB H (l.drop (half l.length))] else proofB H (i - half l.length) (l.drop (half l.length)) ++ [rootB H (l.take (half l.length))] := by
  obtain ⟨a, b, c⟩ := half_bounds h h3
  obtain ⟨f, hf⟩ : ∃ f, l.length = f + 1 := ⟨l.length - 1, by omega⟩
  have e1 := proofF_fuel H f (l.take (half l.length)).length i (l.take (half l.length)) (by rw [List.length_take]; omega) (Nat.le_refl _) (by rw [List.length_take]; omega)
  have e2 := proofF_fuel H f (l.drop (half l.length)).length (i - half l.length) (l.drop (half l.length)) (by rw [List.length_drop]; omega) (Nat.le_refl _) (by rw [List.length_drop]; omega)
  unfold proofB
  rw [← e1, ← e2]
  conv => lhs; rw [hf]
  rw [proofF, if_neg (by omega)]
/-- .. or an error. -/
def proofR (i : Int) (l : List ByteArray) : List ByteArray × Nat := if i < 0 ∨ (l.length : Int) ≤ i then ([], 2) else (proofB H i.toNat l, 0)

/-- On which side each digest of a proof stands, from the leaf on. -/
def sidesF : Nat → Nat → Nat → List Bool
  | 0, _, _ => []
  | f + 1, n, i => if n < 2 then [] else if i < half n then sidesF f (half n) i ++ [true] else sidesF f (n - half n) (i - half n) ++ [false]
def sidesB (n i : Nat) : List Bool := sidesF n n i
theorem sidesF_fuel (f : Nat) : ∀ (g n i : Nat), n ≤ f → n ≤ g → n < 2 ^ 64 → sidesF f n i = sidesF g n i := by
  induction f with
  | zero =>
    intro g n i h1 _ _
    cases g with
    | zero => rfl
    | succ g => rw [sidesF, sidesF, if_pos (by omega)]
  | succ f ih =>
    intro g n i h1 h2 h3
    cases g with
    | zero => rw [sidesF, sidesF, if_pos (by omega)]
    | succ g =>
      rw [sidesF, sidesF]
      by_cases h : n < 2
      · rw [if_pos h, if_pos h]
      · obtain ⟨a, b, c⟩ := half_bounds (n := n) (by omega) h3
        rw [if_neg h, if_neg h, ih g (half n) i (by omega) (by omega) (by omega), ih g (n - half n) (i - half n) (by omega) (by omega) (by omega)]
theorem sidesB_few (n i : Nat) (h : n < 2) : sidesB n i = [] := by
  unfold sidesB
  cases n with
  | zero => rfl
  | succ f => rw [sidesF, if_pos h]
theorem sidesB_many (n i : Nat) (h : 2 ≤ n) (h3 : n < 2 ^ 64) : sidesB n i = if i < half n then sidesB (half n) i ++ [true] else sidesB (n - half n) (i - half n) ++ [false] := by
  obtain ⟨a, b, c⟩ := half_bounds h h3
  obtain ⟨f, hf⟩ : ∃ f, n = f + 1 := ⟨n - 1, by omega⟩
  have e1 := sidesF_fuel f (half n) (half n) i (by omega) (Nat.le_refl _) (by omega)
  have e2 := sidesF_fuel f (n - half n) (n - half n) (i - half n) (by omega) (Nat.le_refl _) (by omega)
  unfold sidesB
  rw [← e1, ← e2]
  conv => lhs; arg 1; rw [hf]
  rw [sidesF, if_neg (by omega)]
/-- No more sides than bits. -/
theorem sides_le (b : Nat) : ∀ (n i : Nat), n ≤ 2 ^ b → b ≤ 63 → (sidesB n i).length ≤ b := by
  induction b with
  | zero => intro n i h _; rw [sidesB_few n i (by simp at h; omega)]; simp
  | succ b ih =>
    intro n i h hb
    by_cases h2 : n < 2
    · rw [sidesB_few n i h2]; simp
    · have hp : 2 ^ (b + 1) ≤ 2 ^ 63 := Nat.pow_le_pow_right (by omega) hb
      have h64 : n < 2 ^ 64 := by omega
      obtain ⟨a1, a2, a3⟩ := half_bounds (n := n) (by omega) h64
      have hh : half n ≤ 2 ^ b := by
        unfold half
        refine Nat.pow_le_pow_right (by omega) ?_
        have := Lib.bitLen_le (n - 1) (b + 1) (by omega) (by omega)
        omega
      rw [sidesB_many n i (by omega) h64]
      split
      · have := ih (half n) i hh (by omega); simp; omega
      · have := ih (n - half n) (i - half n) (by omega) (by omega); simp; omega

/-- What is hashed one step up. -/
def up (t : ByteArray) (r : Bool) (p : ByteArray) : ByteArray := if r then nodeB (H t) p else nodeB p (H t)
/-- All that is hashed from a text up. -/
def wayL : ByteArray → List Bool → List ByteArray → List ByteArray
  | t, r :: rs, p :: ps => t :: wayL (up H t r p) rs ps
  | t, _, _ => [t]
/-- .. the last of it. -/
def topL : ByteArray → List Bool → List ByteArray → ByteArray
  | t, r :: rs, p :: ps => topL (up H t r p) rs ps
  | t, _, _ => t
theorem topL_snoc (rs : List Bool) : ∀ (t : ByteArray) (ps : List ByteArray) (r : Bool) (p : ByteArray), rs.length = ps.length → topL H t (rs ++ [r]) (ps ++ [p]) = up H (topL H t rs ps) r p := by
  induction rs with
  | nil => intro t ps r p h; have : ps = [] := List.eq_nil_of_length_eq_zero (by simpa using h.symm); subst this; rfl
  | cons a rs ih =>
    intro t ps r p h
    cases ps with
    | nil => simp at h
    | cons q ps => exact ih (up H t a q) ps r p (by simpa using h)
theorem wayL_snoc (rs : List Bool) : ∀ (t : ByteArray) (ps : List ByteArray) (r : Bool) (p : ByteArray), rs.length = ps.length → wayL H t (rs ++ [r]) (ps ++ [p]) = wayL H t rs ps ++ [up H (topL H t rs ps) r p] := by
  induction rs with
  | nil => intro t ps r p h; have : ps = [] := List.eq_nil_of_length_eq_zero (by simpa using h.symm); subst this; rfl
  | cons a rs ih =>
    intro t ps r p h
    cases ps with
    | nil => simp at h
    | cons q ps => show t :: wayL H (up H t a q) (rs ++ [r]) (ps ++ [p]) = _; rw [ih (up H t a q) ps r p (by simpa using h)]; rfl
theorem wayL_length (rs : List Bool) : ∀ (t : ByteArray) (ps : List ByteArray), rs.length = ps.length → (wayL H t rs ps).length = rs.length + 1 := by
  induction rs with
  | nil => intro t ps h; have : ps = [] := List.eq_nil_of_length_eq_zero (by simpa using h.symm); subst this; rfl
  | cons a rs ih =>
    intro t ps h
    cases ps with
    | nil => simp at h
    | cons q ps => show (t :: wayL H (up H t a q) rs ps).length = _; rw [List.length_cons, ih _ ps (by simpa using h)]; simp
theorem wayL_last (rs : List Bool) : ∀ (t : ByteArray) (ps : List ByteArray), rs.length = ps.length → (wayL H t rs ps).getD rs.length ByteArray.empty = topL H t rs ps := by
  induction rs with
  | nil => intro t ps h; have : ps = [] := List.eq_nil_of_length_eq_zero (by simpa using h.symm); subst this; rfl
  | cons a rs ih =>
    intro t ps h
    cases ps with
    | nil => simp at h
    | cons q ps => show (t :: wayL H (up H t a q) rs ps).getD (rs.length + 1) _ = _; rw [List.getD_cons_succ]; exact ih _ ps (by simpa using h)
/-- Is a proof of the right form? -/
def fits (n i : Int) (ps : List ByteArray) : Bool := decide (0 ≤ i) && decide (i < n) && decide ((sidesB n.toNat i.toNat).length = ps.length) && ps.all (fun p => decide (p.size = 32))
def wayR (n i : Int) (leaf : ByteArray) (ps : List ByteArray) : List ByteArray × Bool := if fits n i ps then (wayL H (leafB leaf) (sidesB n.toNat i.toNat) ps, true) else ([], false)
def provesR (root : ByteArray) (n i : Int) (leaf : ByteArray) (ps : List ByteArray) : Bool := fits n i ps && decide (H (topL H (leafB leaf) (sidesB n.toNat i.toNat) ps) = root)

/-! ### The laws -/
theorem proof_length (f : Nat) : ∀ (i : Nat) (l : List ByteArray), l.length ≤ f → l.length < 2 ^ 64 → i < l.length → (proofB H i l).length = (sidesB l.length i).length := by
  induction f with
  | zero => intro i l h1 _ h3; omega
  | succ f ih =>
    intro i l h1 h2 h3
    by_cases h : 2 ≤ l.length
    · obtain ⟨a, b, c⟩ := half_bounds h h2
      rw [proofB_many H i l h h2, sidesB_many _ i h h2]
      have el : (l.take (half l.length)).length = half l.length := by rw [List.length_take]; omega
      have er : (l.drop (half l.length)).length = l.length - half l.length := by rw [List.length_drop]
      split
      · have := ih i (l.take (half l.length)) (by omega) (by omega) (by omega)
        rw [el] at this; simp [this]
      · have := ih (i - half l.length) (l.drop (half l.length)) (by omega) (by omega) (by omega)
        rw [er] at this; simp [this]
    · rw [proofB_few H i l (by omega), sidesB_few _ i (by omega)]; rfl
/-- Each leaf comes to the root by its proof. -/
theorem proof_top (f : Nat) : ∀ (i : Nat) (l : List ByteArray), l.length ≤ f → l.length < 2 ^ 64 → (h : i < l.length) → H (topL H (leafB l[i]) (sidesB l.length i) (proofB H i l)) = rootB H l := by
  induction f with
  | zero => intro i l h1 _ h3; omega
  | succ f ih =>
    intro i l h1 h2 h3
    by_cases h : 2 ≤ l.length
    · obtain ⟨a, b, c⟩ := half_bounds h h2
      rw [proofB_many H i l h h2, sidesB_many _ i h h2, rootB_many H l h h2]
      have el : (l.take (half l.length)).length = half l.length := by rw [List.length_take]; omega
      have er : (l.drop (half l.length)).length = l.length - half l.length := by rw [List.length_drop]
      by_cases hi : i < half l.length
      · rw [if_pos hi, if_pos hi]
        have hp := proof_length H f i (l.take (half l.length)) (by omega) (by omega) (by omega)
        have ht := ih i (l.take (half l.length)) (by omega) (by omega) (by omega)
        rw [el] at hp
        rw [topL_snoc H _ _ _ _ _ hp.symm]
        have e1 : (l.take (half l.length))[i]'(by omega) = l[i] := by simp
        rw [e1, el] at ht
        show H (nodeB (H _) _) = _
        rw [ht]
      · rw [if_neg hi, if_neg hi]
        have hp := proof_length H f (i - half l.length) (l.drop (half l.length)) (by omega) (by omega) (by omega)
        have ht := ih (i - half l.length) (l.drop (half l.length)) (by omega) (by omega) (by omega)
        rw [er] at hp
        rw [topL_snoc H _ _ _ _ _ hp.symm]
        have e1 : (l.drop (half l.length))[i - half l.length]'(by omega) = l[i] := by simp only [List.getElem_drop]; congr 1; omega
        rw [e1, er] at ht
        show H (nodeB _ (H _)) = _
        rw [ht]
    · match l, h, h3 with
      | [s], _, h3 =>
        have : i = 0 := by simpa using h3
        subst this
        rfl
      | [], _, h3 => simp at h3
      | _ :: _ :: _, h, _ => simp at h
theorem root_size (hH : ∀ s, (H s).size = 32) (l : List ByteArray) : (rootB H l).size = 32 := by
  have : ∀ f l, (rootF H f l).size = 32 := by
    intro f l
    cases f with
    | zero => exact hH _
    | succ f =>
      match l with
      | [] => exact hH _
      | [s] => exact hH _
      | _ :: _ :: _ => exact hH _
  exact this _ _
theorem proof_sizes (hH : ∀ s, (H s).size = 32) (f : Nat) : ∀ (i : Nat) (l : List ByteArray), l.length ≤ f → l.length < 2 ^ 64 → ∀ p ∈ proofB H i l, p.size = 32 := by
  induction f with
  | zero => intro i l h1 _ p hp; rw [proofB_few H i l (by omega)] at hp; simp at hp
  | succ f ih =>
    intro i l h1 h2 p hp
    by_cases h : 2 ≤ l.length
    · obtain ⟨a, b, c⟩ := half_bounds h h2
      rw [proofB_many H i l h h2] at hp
      split at hp
      · rcases List.mem_append.1 hp with hp | hp
        · exact ih i (l.take (half l.length)) (by rw [List.length_take]; omega) (by rw [List.length_take]; omega) p hp
        · simp at hp; subst hp; exact root_size H hH _
      · rcases List.mem_append.1 hp with hp | hp
        · exact ih _ (l.drop (half l.length)) (by rw [List.length_drop]; omega) (by rw [List.length_drop]; omega) p hp
        · simp at hp; subst hp; exact root_size H hH _
    · rw [proofB_few H i l (by omega)] at hp; simp at hp
end Tre
end Go.Proofs.Ytbajgpbekanodaa
