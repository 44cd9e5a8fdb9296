import Derived.Test.YtcambbnmeiolgaaRDec
namespace Go.Proofs.Ytcambbnmeiolgaa
open Go.RowKit

theorem bytD_small (bs : List Int) (ps : List (Int × Int)) (l : List Int) : (bytD bs ps l).length ≤ 16 * l.length := by
  unfold bytD
  split
  · simp
  · rename_i ls hq
    split
    · exact flat_small (toks_of hq) l
    · simp

end Go.Proofs.Ytcambbnmeiolgaa
