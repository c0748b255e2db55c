/- The walks over octets.TakeText and the document's, and over the laws OctetsTakes and OctetsTexts. Condition: the text is at most maxLen bytes (the laws: 2^47 - 4096). -/
import Derived.Test.YtbajgpbekanodaaOctText
import Derived.Test.YtbajgpbekanodaaOctRef
namespace Go.Proofs.Ytbajgpbekanodaa
open Go.RowKit

/-- A text taken, as the program gives it back. -/
def tripT (r : ByteArray × Nat × Nat) : Value := .tuple #[.string r.1, .int .i64 r.2.1, .int .i64 r.2.2]

theorem cut_cut (s : ByteArray) (q n : Nat) (h : q + n ≤ s.size) : (s.extract q s.size).extract 0 n = s.extract q (q + n) := by
  apply ByteArray.ext
  rw [ByteArray.data_extract, ByteArray.data_extract, ByteArray.data_extract, Array.extract_extract]
  congr 1
  have : s.data.size = s.size := rfl
  omega

end Go.Proofs.Ytbajgpbekanodaa
