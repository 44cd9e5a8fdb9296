import Derived.Test.YtobklhnechbpaaaVoc
import Derived.Maps.Own
import Derived.Maps.OwnSet
import Derived.DeepKeys4
namespace Go.Proofs.Ytobklhnechbpaaa
open Go.RowKit Go.Maps

theorem laidOut : laidOutB Try.prog = true := by kernel_rfl
theorem law5 : Keyed Try.prog 5 := int_keyed Try.underlying5
theorem law51 : Keyed Try.prog 51 := Keyed.of_law (deep_law_laid laidOut (m := 8) (by decide) (of_decide_eq_true (by kernel_rfl)) (by kernel_rfl) (by kernel_rfl))
theorem zero3 (w : World) : (zeroValue 3).run Try.prog w = .ok (.int .i64 0) w := by kernel_rfl
theorem key51 (a b : Int) (ha : (Lit.int .i64 a).wf = true) (hb : (Lit.int .i64 b).wf = true) : ∃ l, keyOf Try.prog 51 (.agg #[.int .i64 a, .int .i64 b]) = some l := by
  have h1 : Try.prog.keyType 51 = true := by kernel_rfl
  have h2 : Value.formed Try.prog 51 (.agg #[.int .i64 a, .int .i64 b]) = true := by kernel_rfl
  have hc : Try.prog.cellsOf 3 = 1 := by kernel_rfl
  have hc2 : Try.prog.cellsOf 51 = 2 := by kernel_rfl
  have e2 : ∀ d : Nat, Try.prog.keyLits (d + 1 + 1) 51 [.int .i64 a, .int .i64 b] = some [.int .i64 a, .int .i64 b] := fun d => by
    simp [Program.keyLits, Try.underlying51, Try.underlying3, hc, hc2, List.range_succ, ha, hb]
  obtain ⟨d, hd⟩ : ∃ d, Try.prog.types.size + 1 = d + 1 + 1 := ⟨Try.prog.types.size - 1, by
    have : 0 < Try.prog.types.size := of_decide_eq_true (by kernel_rfl)
    omega⟩
  refine ⟨.string (keyBytes [.int .i64 a, .int .i64 b]), ?_⟩
  unfold keyOf
  rw [Try.underlying51]
  have e3 := e2 d
  rw [← hd] at e3
  have hcl : (Value.agg #[Value.int .i64 a, Value.int .i64 b]).cells.toList = [Value.int .i64 a, Value.int .i64 b] := rfl
  simp only [h1, h2, hcl, Bool.true_and, if_true, e3]
  rfl
end Go.Proofs.Ytobklhnechbpaaa
