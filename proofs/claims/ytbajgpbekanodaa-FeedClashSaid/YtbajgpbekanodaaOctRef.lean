/- The walks over the document's TakeNumber (pandectref01): what each call returns. Condition: the text is at most maxLen bytes. -/
import Derived.Test.YtbajgpbekanodaaOctTake
import Derived.Test.YtbajgpbekanodaaRegionB
namespace Go.Proofs.Ytbajgpbekanodaa
open Go.RowKit

theorem un_small (l : List UInt8) (h : l.length ≤ 8) : Oct.un l < 18446744073709551616 :=
  Nat.lt_of_lt_of_le (Oct.un_lt l) (Nat.le_trans (Nat.pow_le_pow_right (by decide) h) (by decide))
end Go.Proofs.Ytbajgpbekanodaa
