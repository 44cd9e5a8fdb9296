import Derived.Test.YtobklhnechbpaaaSettleW
import Derived.Test.YtobklhnechbpaaaArg
namespace Go.Proofs.Ytobklhnechbpaaa
open Go.ChangeShapes Go.WideShapes Go.ChangeAt Go.RowKit
/-- the pairs of a vocabulary that came in are no more than their room -/
theorem voc_cap {H : Type} {enc : TypeId × Value → H} {w : World} {base n m c c' : Nat} {A A' : Option Addr} {d : DataW H} {p : List MemPlace}
    (hv : Value.okWide Try.prog w .any base 25 (.agg #[.slice A n c, .slice A' m c'])) (h : DataW.Trod enc Try.prog w 0 (fun _ => true) true 25 (.agg #[.slice A n c, .slice A' m c']) d p) : m ≤ c' := by
  obtain ⟨v0, v1, y0, y1, k, he, _, _, g0, g1⟩ := Go.Joins.open_agg2 Try.underlying25 (by kernel_rfl) (by kernel_rfl) hv h
  simp only [Value.agg.injEq, Array.mk.injEq, List.cons.injEq, and_true] at he
  obtain ⟨rfl, rfl⟩ := he
  obtain ⟨B, q, cc, he, t1⟩ := slice_val Try.underlying23 g1
  cases he
  rcases open_rows (sz := 2) Try.underlying23 (by kernel_rfl) (by decide) t1 with ⟨_, rfl, _, _⟩ | ⟨_, _, _, hl, _⟩ <;> omega
end Go.Proofs.Ytobklhnechbpaaa
