/- The mathematics of FeedPlays: what the document's feed does is what the program's does. -/
import Derived.Test.YtbajgpbekanodaaFeedClashN
import Derived.Test.YtbajgpbekanodaaFeedRefClash
namespace Go.Proofs.Ytbajgpbekanodaa
open Go.RowKit

/-- An act. -/
structure Fd.Act where
  take : Bool
  bodies : List ByteArray
  head : ByteArray
  entries : List Fd.Ent
def Act0 : Fd.Act := ⟨false, [], ByteArray.empty, []⟩

theorem goOn_is (H : ByteArray → ByteArray) (es : List Fd.Ent) : ∀ st : Fd.State, goOn H st es = if goesL H st es = true ∧ (es.any fun e => isBig e.body) = false then some (endSt H st es) else none := by
  induction es with
  | nil => intro st; rw [if_pos ⟨rfl, rfl⟩]; rfl
  | cons x es ih =>
    intro st
    unfold goOn
    have hg : goesL H st (x :: es) = if x = st.next x.body then goesL H (st.push H x) es else false := rfl
    have he : endSt H st (x :: es) = endSt H (st.push H x) es := rfl
    rw [ih, hg, he, List.any_cons]
    by_cases h1 : x = st.next x.body
    · rw [if_pos h1]
      cases h2 : isBig x.body with
      | true => simp
      | false =>
        have : (x = st.next x.body ∧ false = false) := ⟨h1, rfl⟩
        rw [if_pos this, Bool.false_or]
    · rw [if_neg h1, if_neg (fun h => h1 h.1), if_neg (by simp)]
/-- The document's Take. -/
def takeD (H : ByteArray → ByteArray) (all : List Fd.Ent) (head : ByteArray) (es : List Fd.Ent) : List Fd.Ent × Int :=
  let l := es.drop (restOf all.length es)
  if l = [] then (all, if head = headL H all then 0 else 390)
  else if goesL H ⟨all, headL H all⟩ l = true ∧ headL H l = head ∧ (l.any fun e => isBig e.body) = false then (all ++ l, 0) else (all, 390)
theorem Chained.headL {H : ByteArray → ByteArray} {s : Fd.State} (h : Chained H s) : headL H s.all = s.head := by
  unfold Proofs.Ytbajgpbekanodaa.headL
  by_cases hn : s.all = []
  · rw [if_pos hn, h.none hn]
  · rw [if_neg hn, h.head hn]
theorem takeD_is {H : ByteArray → ByteArray} {st : Fd.State} (hc : Chained H st) (head : ByteArray) (es : List Fd.Ent) : (takeR H st head es).1.all = (takeD H st.all head es).1 ∧ (takeR H st head es).2 = (takeD H st.all head es).2 := by
  unfold takeR takeD
  simp only
  have hst : (⟨st.all, headL H st.all⟩ : Fd.State) = st := by rw [hc.headL]
  rw [hst, hc.headL]
  generalize hk : restOf st.all.length es = k
  by_cases h : es.length ≤ k
  · have hd : es.drop k = [] := List.drop_of_length_le h
    rw [if_pos h, if_pos hd]
    exact ⟨rfl, rfl⟩
  · have hd : es.drop k ≠ [] := fun hn => by
      have : (es.drop k).length = 0 := by rw [hn]; rfl
      rw [List.length_drop] at this
      omega
    rw [if_neg h, if_neg hd, goOn_is]
    have hl : 0 < (es.drop k).length := List.length_pos_iff.2 hd
    have hee : (endSt H st (es.drop k)).head = headL H (es.drop k) := by
      rw [endSt_last H _ st ((es.drop k).length - 1) (by omega)]
      unfold headL
      rw [if_neg hd]
      rfl
    by_cases hg : goesL H st (es.drop k) = true ∧ ((es.drop k).any fun e => isBig e.body) = false
    · rw [if_pos hg]
      simp only
      rw [hee]
      by_cases hh : headL H (es.drop k) = head
      · rw [if_pos hh, if_pos ⟨hg.1, hh, hg.2⟩]
        exact ⟨endSt_all H _ st, rfl⟩
      · rw [if_neg hh, if_neg (fun h => hh h.2.1)]
        exact ⟨rfl, rfl⟩
    · rw [if_neg hg, if_neg (fun h => hg ⟨h.1, h.2.2⟩)]
      exact ⟨rfl, rfl⟩
/-- What the document's Since has told of the first k entries. -/
def sinceK (all : List Fd.Ent) (seq most : Int) (k : Nat) : List Fd.Ent := ((all.take k).drop (max seq 0).toNat).take (max most 0).toNat
theorem sinceK_zero (all : List Fd.Ent) (seq most : Int) : sinceK all seq most 0 = [] := by unfold sinceK; simp
theorem sinceK_len (all : List Fd.Ent) (seq most : Int) (k : Nat) : (sinceK all seq most k).length ≤ all.length := by
  unfold sinceK; simp only [List.length_take, List.length_drop]; omega
theorem sinceK_succ (all : List Fd.Ent) (seq most : Int) (k : Nat) (hk : k < all.length) : sinceK all seq most (k + 1) = if seq < (k : Int) + 1 ∧ ((sinceK all seq most k).length : Int) < most then sinceK all seq most k ++ [all.getD k Ent0] else sinceK all seq most k := by
  have hg : all[k] = all.getD k Ent0 := by simp [List.getD, hk]
  have hlk : (all.take k).length = k := by rw [List.length_take]; omega
  unfold sinceK
  rw [List.take_succ_eq_append_getElem hk, hg]
  by_cases hs : seq < (k : Int) + 1
  · have hs' : (max seq 0).toNat ≤ k := by omega
    rw [List.drop_append_of_le_length (by omega)]
    generalize (max seq 0).toNat = s at *
    have hlen : ((all.take k).drop s).length = k - s := by rw [List.length_drop, hlk]
    generalize (all.take k).drop s = d at *
    by_cases hm : ((d.take (max most 0).toNat).length : Int) < most
    · rw [if_pos ⟨hs, hm⟩]
      have h1 : d.length < (max most 0).toNat := by rw [List.length_take] at hm; omega
      rw [List.take_of_length_le (by rw [List.length_append]; simp; omega), List.take_of_length_le (by omega)]
    · rw [if_neg (fun h => hm h.2)]
      have h1 : (max most 0).toNat ≤ d.length := by rw [List.length_take] at hm; omega
      rw [List.take_append_of_le_length h1]
  · rw [if_neg (fun h => hs h.1)]
    rw [List.drop_of_length_le (by rw [List.length_append, hlk]; simp; omega), List.drop_of_length_le (by rw [hlk]; omega)]
theorem sinceK_all (all : List Fd.Ent) (seq most : Int) : sinceK all seq most all.length = sinceL all seq most := by
  unfold sinceK sinceL
  rw [List.take_length]
  by_cases h : (all.length : Int) ≤ seq ∨ most < 1
  · rw [if_pos h]
    rcases h with h | h
    · rw [List.drop_of_length_le (by omega)]; simp
    · rw [show (max most 0).toNat = 0 by omega]; simp
  · rw [if_neg h, show (max most 0).toNat = most.toNat by omega]
end Go.Proofs.Ytbajgpbekanodaa
namespace Go.Proofs.Ytbajgpbekanodaa
open Go.RowKit

def ActAt (w : World) (b o : Nat) (x : Fd.Act) : Prop := ∃ (bo : Option Addr) (bc : Nat) (eo : Option Addr) (ec : Nat),
  (w.cell? ⟨b, o, none⟩ = some (.bool x.take) ∧ w.cell? ⟨b, o + 1, none⟩ = some (.slice bo x.bodies.length bc) ∧ w.cell? ⟨b, o + 2, none⟩ = some (.string x.head) ∧ w.cell? ⟨b, o + 3, none⟩ = some (.slice eo x.entries.length ec)) ∧
    StrsFit x.bodies bc ∧ StrsAt w bo x.bodies ∧ EntsAt w eo x.entries ∧ EntsMost x.entries ∧ x.entries.length ≤ ec ∧ ec ≤ maxLen
def ActsAt (w : World) (a : Option Addr) (xs : List Fd.Act) : Prop := ∀ i, i < xs.length → ∃ b off, a = some ⟨b, off, none⟩ ∧ b < w.heap.size ∧ ActAt w b (off + i * 4) (xs.getD i Act0)
theorem ActAt.kept {w w' : World} {b o N : Nat} {x : Fd.Act} (h : ActAt w b o x) (hb : Below N w w') (hN : w.heap.size ≤ N) : ActAt w' b o x := by
  obtain ⟨bo, bc, eo, ec, ⟨c0, c1, c2, c3⟩, h1, h2, h3, h4, h5⟩ := h
  have hlt : b < N := Nat.lt_of_lt_of_le (World.block_lt_of_cell? _ _ c0) hN
  exact ⟨bo, bc, eo, ec, ⟨(hb.cell (p := ⟨b, o, none⟩) hlt).trans c0, (hb.cell (p := ⟨b, o + 1, none⟩) hlt).trans c1, (hb.cell (p := ⟨b, o + 2, none⟩) hlt).trans c2, (hb.cell (p := ⟨b, o + 3, none⟩) hlt).trans c3⟩, h1, h2.kept hb hN, h3.kept hb hN, h4, h5⟩
/-- What few weighs. -/
def bodR : Nat → List ByteArray → Option Nat
  | n, [] => some n
  | n, s :: r => if 20000 < n + (min s.size 20000 + 100) then none else bodR (n + (min s.size 20000 + 100)) r
def fewA : Nat → List Fd.Act → Bool
  | _, [] => true
  | n, x :: r => if 6000 < n + 200 ∨ fewB x.entries = false ∨ 60 < x.entries.length then false else match bodR (n + 200) x.bodies with | none => false | some k => fewA k r
theorem bodR_some : ∀ {l : List ByteArray} {n k : Nat}, bodR n l = some k → n + 100 * l.length ≤ k ∧ (k ≤ 20000 ∨ l = []) ∧ ∀ s ∈ l, s.size ≤ 20000
  | [], n, k, h => by unfold bodR at h; cases h; exact ⟨by simp, Or.inr rfl, (fun s hs => by cases hs)⟩
  | s :: r, n, k, h => by
    unfold bodR at h
    by_cases hn : 20000 < n + (min s.size 20000 + 100)
    · rw [if_pos hn] at h; cases h
    · rw [if_neg hn] at h
      obtain ⟨h1, h2, h3⟩ := bodR_some h
      refine ⟨by rw [List.length_cons]; omega, Or.inl ?_, fun t ht => ?_⟩
      · rcases h2 with h2 | h2
        · exact h2
        · subst h2; unfold bodR at h; cases h; omega
      · rcases List.mem_cons.1 ht with rfl | ht
        · omega
        · exact h3 t ht
structure ActOk (x : Fd.Act) : Prop where
  few : fewB x.entries = true
  len : x.entries.length ≤ 60
  bods : x.bodies.length ≤ 200
  size : ∀ s ∈ x.bodies, s.size ≤ 20000
theorem fewA_ok : ∀ {l : List Fd.Act} {n : Nat}, fewA n l = true → (∀ x ∈ l, ActOk x) ∧ (l = [] ∨ n + 200 * l.length ≤ 6000)
  | [], n, _ => ⟨(fun x hx => by cases hx), Or.inl rfl⟩
  | x :: r, n, h => by
    unfold fewA at h
    by_cases hn : 6000 < n + 200 ∨ fewB x.entries = false ∨ 60 < x.entries.length
    · rw [if_pos hn] at h; cases h
    · rw [if_neg hn] at h
      cases hb : bodR (n + 200) x.bodies with
      | none => rw [hb] at h; cases h
      | some k =>
        rw [hb] at h
        simp only at h
        obtain ⟨h1, h2⟩ := fewA_ok h
        obtain ⟨b1, b2, b3⟩ := bodR_some hb
        have hf : fewB x.entries = true := by
          cases hq : fewB x.entries with
          | true => rfl
          | false => exact absurd (Or.inr (Or.inl hq)) hn
        refine ⟨fun y hy => ?_, Or.inr ?_⟩
        · rcases List.mem_cons.1 hy with rfl | hy
          · refine ⟨hf, by omega, ?_, b3⟩
            rcases b2 with b2 | b2
            · omega
            · rw [b2]; simp
          · exact h1 y hy
        · rw [List.length_cons]
          rcases h2 with h2 | h2
          · subst h2; simp; omega
          · omega
theorem drop_cons {α : Type} (l : List α) (d : α) (k : Nat) (h : k < l.length) : l.drop k = l.getD k d :: l.drop (k + 1) := by
  rw [List.drop_eq_getElem_cons h]
  congr 1
  simp [List.getD, h]

set_option maxRecDepth 100000 in
set_option maxHeartbeats 8000000 in
theorem few39_any (xs : List Fd.Act) (ao : Option Addr) (cap : Nat) (w : World) (hc : ActsAt w ao xs) (hl : (xs.length : Int) ≤ 9223372036854775807) :
    Calls Try.prog 40 #[.slice ao xs.length cap] w fun e w' => e = .returned (.bool (fewA 0 xs)) ∧ Below w.heap.size w w' := by
  have HC := Lib.hid hc
  obtain ⟨n, hn⟩ : ∃ n, n = xs.length := ⟨_, rfl⟩
  have HN := Lib.hid hn
  obtain ⟨R, hR⟩ : ∃ R, R = fewA 0 xs := ⟨_, rfl⟩
  have HR : Hid (fewA 0 xs = R) := hR.symm
  rw [← hn] at hl ⊢
  rw [← hR]
  clear hc hn hR
  go_enter Try.func40, Try.ntmps40
  go_wp2_with fail
  go_loopw [3, 4] (fun t i wr => ∃ k T : Nat, (k : Int) ≤ (n : Int) ∧ t = .int .i64 (T : Int) ∧ i = .int .i64 (k : Int) ∧ (T : Int) ≤ 20000 ∧ Hid (fewA T (xs.drop k) = R) ∧ Hid (Below w.heap.size w wr)) (fun _ i _ => n - (intOf i).toNat)
  case atStart => exact ⟨0, 0, by omega, rfl, rfl, by omega, HR, Below.refl _ _⟩
  case round =>
    clear HR
    obtain ⟨k, T, hk, rfl, rfl, hT, HT, HBE⟩ := hrel
    have hk0 : (0 : Int) ≤ (k : Int) := Int.natCast_nonneg _
    have hT0 : (0 : Int) ≤ (T : Int) := Int.natCast_nonneg _
    by_cases hlt : (k : Int) < (n : Int)
    · have hkl : k < xs.length := by have := HN.out; omega
      obtain ⟨b, off, rfl, hb, hcell0⟩ := HC.out k hkl
      have HDR := Lib.hid (drop_cons xs Act0 k hkl)
      obtain ⟨bo, bc, eo, ec, ⟨c0, c1, c2, c3⟩, hsf, hsa, hea, hem, hel, hem2⟩ := hcell0.kept HBE.out (Nat.le_refl _)
      generalize xs.getD k Act0 = x at *
      obtain ⟨tk, bods, hd, ents⟩ := x
      simp only at c0 c1 c2 c3 hsf hsa hea hem hel hem2
      have HTT : Hid (R = if 6000 < T + 200 ∨ fewB ents = false ∨ 60 < ents.length then false else match bodR (T + 200) bods with | none => false | some k' => fewA k' (xs.drop (k + 1))) := by
        show _ = _
        rw [← HT.out, HDR.out]
        rfl
      have HBF : Hid (∀ i, i < bods.length → (bods.getD i ByteArray.empty).size ≤ maxLen) := fun i _ => getD_fit hsf i
      have HSA := Lib.hid hsa
      have hel2 : (ents.length : Int) ≤ 9223372036854775807 := by unfold maxLen at hem2; omega
      have CFW : Hid (∀ w', Below wr.heap.size wr w' → Calls Try.prog 33 #[.slice eo ents.length ec] w' fun e w'' => e = .returned (.bool (fewB ents)) ∧ Below w'.heap.size w' w'') := fun w' hb' => few_any ents eo ec w' (hea.kept hb' (Nat.le_refl _)) hel2 hem
      have hbl2 : (bods.length : Int) ≤ 9223372036854775807 := by have h1 := hsf.1; have h2 := hsf.2.1; unfold maxLen at h2; omega
      obtain ⟨ne, hne⟩ : ∃ ne, ne = ents.length := ⟨_, rfl⟩
      have HNE := Lib.hid hne
      obtain ⟨nb, hnb⟩ : ∃ nb, nb = bods.length := ⟨_, rfl⟩
      have HNB := Lib.hid hnb
      rw [← hne] at c3 CFW hel2
      rw [← hnb] at c1 hbl2
      clear hkl hb hcell0 hsf hsa hea hem hel hem2 hne hnb HT HDR
      obtain ⟨T1, hT1⟩ : ∃ T1 : Nat, (T : Int) + 200 = (T1 : Int) := ⟨T + 200, by omega⟩
      have HT1 : Hid (T + 200 = T1) := by show _ = _; omega
      by_cases h6 : (6000 : Int) < (T1 : Int)
      · have HNO : Hid (R = false) := by show _ = _; rw [HTT.out, if_pos (Or.inl (by rw [HT1.out]; omega))]
        clear HTT CFW
        go_wp2_with fail
        go_ret
        rw [HNO.out]
        exact ⟨rfl, HBE.out⟩
      · cases hfw : fewB ents with
        | false =>
          rw [hfw] at CFW
          have HNO : Hid (R = false) := by show _ = _; rw [HTT.out, if_pos (Or.inr (Or.inl hfw))]
          clear HTT
          go_wp2_with fail
          refine (CFW.out _ (Below.refl _ _)).mono ?_
          rintro e w3 ⟨rfl, hb3⟩
          have HB3 : Hid (Below w.heap.size w w3) := HBE.out.trans (hb3.mono HBE.out.size)
          clear hb3 CFW
          go_wp2_with fail
          go_ret
          rw [HNO.out]
          exact ⟨rfl, HB3.out⟩
        | true =>
          rw [hfw] at CFW
          by_cases h60 : (60 : Int) < (ne : Int)
          · have HNO : Hid (R = false) := by show _ = _; rw [HTT.out, if_pos (Or.inr (Or.inr (by rw [← HNE.out]; omega)))]
            clear HTT
            go_wp2_with fail
            refine (CFW.out _ (Below.refl _ _)).mono ?_
            rintro e w3 ⟨rfl, hb3⟩
            have c3 := (hb3.cell (World.block_lt_of_cell? _ _ c3)).trans c3
            have HB3 : Hid (Below w.heap.size w w3) := HBE.out.trans (hb3.mono HBE.out.size)
            clear hb3 CFW
            go_wp2_with fail
            go_ret
            rw [HNO.out]
            exact ⟨rfl, HB3.out⟩
          · have HTT2 : Hid (R = match bodR T1 bods with | none => false | some k' => fewA k' (xs.drop (k + 1))) := by
              show _ = _
              rw [HTT.out, if_neg, HT1.out]
              rintro (h | h | h)
              · rw [HT1.out] at h; omega
              · rw [hfw] at h; cases h
              · rw [← HNE.out] at h; omega
            clear HTT
            go_wp2_with fail
            refine (CFW.out _ (Below.refl _ _)).mono ?_
            rintro e w3 ⟨rfl, hb3⟩
            have c1 := (hb3.cell (World.block_lt_of_cell? _ _ c1)).trans c1
            have c3 := (hb3.cell (World.block_lt_of_cell? _ _ c3)).trans c3
            have HSA3 := Lib.hid (HSA.out.kept hb3 (Nat.le_refl _))
            have HB3 : Hid (Below w.heap.size w w3) := HBE.out.trans (hb3.mono HBE.out.size)
            clear hb3 CFW HBE HSA c0 c2
            have hT16 : (T1 : Int) ≤ 6000 := by omega
            have hT10 : (0 : Int) ≤ (T1 : Int) := Int.natCast_nonneg _
            clear hT1 hT hT0
            go_wp2_with fail
            go_loopw [3, 5] (fun t j wv => ∃ i M : Nat, (i : Int) ≤ (nb : Int) ∧ t = .int .i64 (M : Int) ∧ j = .int .i64 (i : Int) ∧ (M : Int) ≤ 20000 ∧ Hid (bodR M (bods.drop i) = bodR T1 bods) ∧ Hid (wv = w3)) (fun _ j _ => nb - (intOf j).toNat)
            case atStart => exact ⟨0, T1, by omega, rfl, rfl, by omega, rfl, rfl⟩
            case round =>
              obtain ⟨i, M, hi, rfl, rfl, hM, HM, HW⟩ := hrel
              obtain rfl := HW.out
              have hi0 : (0 : Int) ≤ (i : Int) := Int.natCast_nonneg _
              have hM0 : (0 : Int) ≤ (M : Int) := Int.natCast_nonneg _
              by_cases hlt2 : (i : Int) < (nb : Int)
              · have hil : i < bods.length := by have := HNB.out; omega
                obtain ⟨b3, o3, rfl, _, hcs⟩ := HSA3.out i hil
                have HDS := Lib.hid (drop_cons bods ByteArray.empty i hil)
                have hsz := HBF.out i hil
                generalize bods.getD i ByteArray.empty = s at *
                unfold maxLen at hsz
                have hsz2 : (s.size : Int) ≤ 9223372036854775807 := by omega
                obtain ⟨A, hA⟩ : ∃ A : Nat, min (s.size : Int) 20000 = (A : Int) := ⟨min s.size 20000, by omega⟩
                have hA2 : (A : Int) ≤ 20000 := by omega
                obtain ⟨M2, hM2⟩ : ∃ M2 : Nat, (M : Int) + ((A : Int) + 100) = (M2 : Int) := ⟨M + (A + 100), by omega⟩
                have HMM : Hid (bodR T1 bods = if 20000 < M2 then none else bodR M2 (bods.drop (i + 1))) := by
                  show _ = _
                  rw [← HM.out, HDS.out]
                  show (if 20000 < M + (min s.size 20000 + 100) then none else bodR (M + (min s.size 20000 + 100)) (bods.drop (i + 1))) = _
                  rw [show M + (min s.size 20000 + 100) = M2 by omega]
                have hM20 : (0 : Int) ≤ (M2 : Int) := Int.natCast_nonneg _
                clear hil hsz HDS HM
                by_cases h20 : (20000 : Int) < (M2 : Int)
                · have HNO : Hid (R = false) := by show _ = _; rw [HTT2.out, HMM.out, if_pos (by omega)]
                  clear HMM HTT2
                  go_wp2_with fail
                  go_ret
                  rw [HNO.out]
                  exact ⟨rfl, HB3.out⟩
                · have HM3 : Hid (bodR M2 (bods.drop (i + 1)) = bodR T1 bods) := by show _ = _; rw [HMM.out, if_neg (by omega)]
                  clear HMM
                  go_wp2_with fail
                  go_roundw
                  case rel => exact ⟨i + 1, M2, by omega, rfl, by go_num, by omega, HM3, trivial⟩
                  case measure => simp [intOf]; omega
              · obtain rfl : i = nb := by omega
                have HM3 : Hid (fewA M (xs.drop (k + 1)) = R) := by
                  show _ = _
                  rw [HTT2.out, ← HM.out, List.drop_of_length_le (l := bods) (by rw [← HNB.out]; exact Nat.le_refl _)]
                  rfl
                clear hlt2 HTT2 HM
                go_wp2_with fail
                go_roundw
                case rel => exact ⟨k + 1, M, by omega, rfl, by go_num, by omega, HM3, HB3⟩
                case measure => simp [intOf]; omega
    · obtain rfl : k = n := by omega
      have HYES : Hid (R = true) := by
        show _ = _
        rw [← HT.out, List.drop_of_length_le (by rw [← HN.out]; exact Nat.le_refl _)]
        rfl
      clear hlt
      go_wp2_with fail
      go_ret
      rw [HYES.out]
      exact ⟨rfl, HBE.out⟩
end Go.Proofs.Ytbajgpbekanodaa
