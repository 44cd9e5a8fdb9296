import Derived.Test.YtlocogccjlecjaaDoorMem
import Derived.Test.YtlocogccjlecjaaDoorCmpP
import Derived.Maps.OwnSet
import Derived.DeepKeys4
/- The map from states to numbers. -/
namespace Go.Proofs.YtlocogccjlecjaaDoor
open Go.RowKit Go.Maps
theorem laidOutT : laidOutB Tryd.prog = true := by kernel_rfl
theorem row77 : (77 : TypeId) < Tryd.prog.types.size := of_decide_eq_true (by kernel_rfl)
theorem wide77 : (match Tryd.prog.underlying 77 with | some (.array _ _) | some (.struct _) => true | _ => false) = true := by rw [Tryd.underlying77]
theorem keyAt77 : Tryd.prog.keyTypeAt 2 77 = true := by kernel_rfl
theorem le77 : 2 + 1 ≤ 10000 := by omega
set_option maxRecDepth 10000 in
theorem law77 : Keyed Tryd.prog 77 := Keyed.of_law (deep_law_laid laidOutT (m := 2) le77 row77 keyAt77 wide77)
theorem keyType77 : Tryd.prog.keyType 77 = true := by kernel_rfl
theorem cells72 : Tryd.prog.cellsOf 72 = 1 := by kernel_rfl
theorem cells4 : Tryd.prog.cellsOf 4 = 1 := by kernel_rfl
theorem cells77 : Tryd.prog.cellsOf 77 = 2 := by kernel_rfl
def stV (s : St) : Value := .agg #[.int .u64 ((s.1 : Nat) : Int), .bool s.2]
def keyL (s : St) : Lit := .string (keyBytes [.int .u64 ((s.1 : Nat) : Int), .bool s.2])
theorem keyOf_st (s : St) (h : s.1 < 18446744073709551616) : keyOf Tryd.prog 77 (stV s) = some (keyL s) := by
  unfold keyOf
  rw [Tryd.underlying77]
  have hf : (stV s).formed Tryd.prog 77 = true := by simp [stV, Value.formed, Tryd.underlying77, cells77]
  simp only [keyType77, hf, Bool.and_self, if_true]
  have hw : (Lit.int .u64 ((s.1 : Nat) : Int)).wf = true := by simp [Lit.wf, IntKind.min, IntKind.max, IntKind.signed, IntKind.bits]; omega
  obtain ⟨m, hm⟩ : ∃ m, Tryd.prog.types.size = m + 1 := ⟨Tryd.prog.types.size - 1, by have h7 : (77 : Nat) < Tryd.prog.types.size := row77; omega⟩
  rw [hm]
  simp [Program.keyLits, Tryd.underlying77, Tryd.underlying72, Tryd.underlying4, cells77, cells72, cells4, stV, Value.cells, hw]
  rfl
theorem keyL_inj {s s' : St} (h : s.1 < 18446744073709551616) (h' : s'.1 < 18446744073709551616) (e : keyL s = keyL s') : s = s' := by
  have h1 := law77.inj (keyOf_st s h) (e ▸ keyOf_st s' h')
  unfold stV at h1
  injection h1 with h1
  simp at h1
  obtain ⟨a, b⟩ := h1
  exact Prod.ext (by omega) b
def numR : List St → DataW Nat
  | [] => .map []
  | s :: r => (numR r).put (keyL s) (.lit (.int .i64 ((r.length : Nat) : Int)))
/-- the map behind the states q -/
def numD (q : List St) : DataW Nat := numR q.reverse
theorem numD_snoc (q : List St) (s : St) : numD (q ++ [s]) = (numD q).put (keyL s) (.lit (.int .i64 ((q.length : Nat) : Int))) := by simp [numD, numR]
theorem numR_isMap (r : List St) : IsMap (numR r) := by
  induction r with
  | nil => exact isMap_empty
  | cons s r ih => exact ih.put _ _
theorem keyL_is (s : St) : WideAt.IsKeyLit (keyL s) := trivial
theorem numR_has (r : List St) (hr : ∀ s ∈ r, s.1 < 18446744073709551616) (s : St) (hs : s.1 < 18446744073709551616) : Maps.has (numR r) (keyL s) = decide (s ∈ r) := by
  induction r with
  | nil => rfl
  | cons s0 r ih =>
    have h1 := ih (fun z hz => hr z (by simp [hz]))
    by_cases h : s = s0
    · subst h
      rw [numR, has_put_same (numR_isMap r) (keyL_is s)]
      simp
    · rw [numR, has_put_other (fun e => h (keyL_inj hs (hr s0 (by simp)) e)), h1]
      simp [h]
theorem numR_at (r : List St) (hr : ∀ s ∈ r, s.1 < 18446744073709551616) (hn : r.Nodup) (s : St) (z : DataW Nat) (i : Nat) (hi : r.reverse[i]? = some s) : (numR r).atKey (keyL s) z = .lit (.int .i64 ((i : Nat) : Int)) := by
  induction r generalizing i with
  | nil => simp at hi
  | cons s0 r ih =>
    have h1 := fun i => ih (fun z hz => hr z (by simp [hz])) (List.nodup_cons.1 hn).2 i
    rw [List.reverse_cons] at hi
    rcases snoc_cases hi with ⟨hl, hi⟩ | ⟨hl, rfl⟩
    · have hm : s ∈ r := by have := List.mem_of_getElem? hi; simpa using this
      have hne : s ≠ s0 := fun e => (List.nodup_cons.1 hn).1 (e ▸ hm)
      rw [numR, atKey_put_other (fun e => hne (keyL_inj (hr s (by simp [hm])) (hr s0 (by simp)) e))]
      exact h1 i hi
    · rw [numR, atKey_put_same (numR_isMap r) (keyL_is s), hl]
      simp
theorem numD_has {q : List St} (hq : ∀ s ∈ q, s.1 < 18446744073709551616) {s : St} (hs : s.1 < 18446744073709551616) : Maps.has (numD q) (keyL s) = decide (s ∈ q) := by
  have := numR_has q.reverse (fun z hz => hq z (by simpa using hz)) s hs
  simpa [numD] using this
theorem numD_at {q : List St} (hq : ∀ s ∈ q, s.1 < 18446744073709551616) (hn : q.Nodup) {s : St} (hs : s ∈ q) (z : DataW Nat) : (numD q).atKey (keyL s) z = .lit (.int .i64 ((q.idxOf s : Nat) : Int)) := by
  refine numR_at q.reverse (fun z hz => hq z (by simpa using hz)) (by simpa [List.Nodup, List.pairwise_reverse, eq_comm] using hn) s z _ ?_
  rw [List.reverse_reverse, List.getElem?_eq_getElem (List.idxOf_lt_length_of_mem hs)]
  simp
end Go.Proofs.YtlocogccjlecjaaDoor
