/- The walks over the document's List, TakeList and Same: what each call returns. Conditions: the text is at most 2^42 bytes; what is laid takes at most 2^47 bytes. -/
import Derived.Test.YtbajgpbekanodaaOctList
import Derived.BigQuiet
namespace Go.Proofs.Ytbajgpbekanodaa
open Go.RowKit

set_option maxRecDepth 100000 in
set_option maxHeartbeats 1000000 in
theorem same_yes (ao bo : Option Addr) (ca cb : Nat) (ss : List ByteArray) (w : World) (hf : StrsFit ss ca) (ha : StrsAt w ao ss) (hb : StrsAt w bo ss) :
    Calls Try.prog 30 #[.slice ao ss.length ca, .slice bo ss.length cb] w fun e w' => e = .returned (.bool true) ∧ Below w.heap.size w w' := by
  have hm : (ss.length : Int) ≤ 9223372036854775807 := by have h1 := hf.1; have h2 := hf.2.1; unfold maxLen at h2; omega
  obtain ⟨n, hn⟩ : ∃ n, n = ss.length := ⟨_, rfl⟩
  have HN := Lib.hid hn
  have HA := Lib.hid ha
  have HB := Lib.hid hb
  rw [← hn] at hm ⊢
  clear hn ha hb hf
  go_enter Try.func30, Try.ntmps30
  go_wp2_with fail
  go_loopw [5] (fun i wr => ∃ k : Nat, (k : Int) ≤ (n : Int) ∧ i = .int .i64 (k : Int) ∧ Below w.heap.size w wr) (fun i _ => n - (intOf i).toNat)
  case atStart => exact ⟨0, by omega, rfl, Below.refl _ _⟩
  case round =>
    obtain ⟨k, hk, rfl, hbel⟩ := hrel
    by_cases hlt : (k : Int) < (n : Int)
    · have hkl : k < ss.length := by rw [← HN.out]; omega
      obtain ⟨b, off, rfl, hbl, hcell0⟩ := HA.out k hkl
      obtain ⟨b2, off2, rfl, hbl2, hcell2⟩ := HB.out k hkl
      have hcell := (hbel.cell (p := ⟨b, off + k, none⟩) hbl).trans hcell0
      have hcellb := (hbel.cell (p := ⟨b2, off2 + k, none⟩) hbl2).trans hcell2
      generalize ss.getD k ByteArray.empty = s at *
      clear hcell0 hcell2 hkl
      go_wp2_with fail
      go_quiet (fail)
      go_wp2_with fail
      go_roundw
      case rel => exact ⟨k + 1, by omega, by go_num, Below.drewN hbel _⟩
      case measure => simp [intOf]; omega
    · obtain rfl : k = n := by omega
      go_wp2_with fail
      go_ret
      exact ⟨rfl, hbel⟩
end Go.Proofs.Ytbajgpbekanodaa
