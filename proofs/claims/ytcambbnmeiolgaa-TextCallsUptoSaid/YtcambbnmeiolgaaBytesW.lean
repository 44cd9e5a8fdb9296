import Derived.Test.YtcambbnmeiolgaaByt
import Derived.Test.YtcambbnmeiolgaaChecksW
namespace Go.Proofs.Ytcambbnmeiolgaa
open Go.RowKit

theorem bytT_small (bs : List Int) (ps : List (Int × Int)) (t : Int) : (bytT bs ps t).length ≤ 16 := by
  unfold bytT
  split
  · simp
  · rename_i ls hq
    split
    · simp
    · exact (toks_of hq).small _

end Go.Proofs.Ytcambbnmeiolgaa
