import Derived.Test.YtobklhnechbpaaaOwnW
import Derived.Test.YtobklhnechbpaaaArg
namespace Go.Proofs.Ytobklhnechbpaaa
open Go.ChangeShapes Go.WideShapes Go.ChangeAt Go.RowKit
/-- a text that came in is no longer than its room -/
theorem txt_cap {H : Type} {enc : TypeId × Value → H} {w : World} {t ct : Nat} {T : Option Addr} {d : DataW H} {p : List MemPlace}
    (h : DataW.Trod enc Try.prog w 0 (fun _ => true) true 22 (.slice T t ct) d p) : t ≤ ct := by
  rcases open_rows (sz := 1) Try.underlying22 (by kernel_rfl) (by decide) h with ⟨_, rfl, _, _⟩ | ⟨_, _, _, hl, _⟩ <;> omega
end Go.Proofs.Ytobklhnechbpaaa
