import Derived.Test.YtcambbnmeiolgaaArg
namespace Go.Proofs.Ytcambbnmeiolgaa
open Go.ChangeShapes Go.WideShapes Go.ChangeAt Go.RowKit
/-- a slice of strings that came in -/
theorem strs_of {H : Type} {enc : TypeId × Value → H} {w : World} {held : Bool} {A : Option Addr} {n c : Nat} {d : DataW H} {p : List MemPlace} (h : DataW.Trod enc Try.prog w 0 (fun _ => true) held 38 (.slice A n c) d p) :
    ∃ ss : List ByteArray, ss.length = n ∧ Rd w A (ss.map Value.string) := by
  rcases open_rows (sz := 1) Try.underlying38 (by kernel_rfl) (by decide) h with ⟨rfl, rfl, _, _⟩ | ⟨b, o, D, hl, _, _, hA, _, hel⟩
  · exact ⟨[], rfl, .inl rfl⟩
  · obtain ⟨xs, h1, h2⟩ := choose_list n (fun i x => w.cell? ⟨b, o + i, none⟩ = some (.string x)) (fun i hi => by
      obtain ⟨cs, k, Pl, hc, hcell, htr⟩ := hel i (by omega)
      obtain ⟨x, rfl, _⟩ := DataW.trod_string Try.underlying9 htr
      exact ⟨x, by simpa using hcell 0 (by decide)⟩)
    refine ⟨xs, h1, ?_⟩
    rcases Nat.eq_zero_or_pos n with h0 | h0
    · left
      have : xs = [] := List.length_eq_zero_iff.1 (by omega)
      rw [this]; rfl
    · refine .inr ⟨b, o, hA (by omega), fun i hi => ?_⟩
      rw [List.length_map] at hi
      rw [h2 i hi]
      simp [List.getElem?_eq_getElem hi]
set_option maxRecDepth 100000 in
/-- stop strings that came in -/
theorem stops_of {H : Type} {enc : TypeId × Value → H} {w : World} {base j : Nat} {v : Value} {d : DataW H} {p : List MemPlace} {ts : List TypeId} {ds : List (DataW H)}
    (hv : Value.okWide Try.prog w .any base 38 v) (h : DataW.Trod enc Try.prog w 0 (fun _ => true) true 38 v d p)
    (hw : (DataW.weightsEach Try.prog ts ds).all (· ≤ reachBytes) = true) (hj : ts[j]? = some 38) (hd : ds[j]? = some d) :
    ∃ (A : Option Addr) (n c : Nat) (ss : List ByteArray), v = .slice A n c ∧ ss.length = n ∧ Rd w A (ss.map Value.string) ∧ n ≤ 140737488355328 := by
  obtain ⟨A, n, c, rfl⟩ := okWide_slice Try.underlying38 hv
  obtain ⟨ss, e0, r0⟩ := strs_of h
  have l0 := rows_len (j := j) (sz := 1) (B := 16) hw hj hd Try.underlying38 (by kernel_rfl) (by decide) (by kernel_rfl) h
  have k0 : n ≤ c := by
    rcases open_rows (sz := 1) Try.underlying38 (by kernel_rfl) (by decide) h with ⟨_, rfl, _, _⟩ | ⟨_, _, _, hl, _⟩ <;> omega
  exact ⟨A, n, c, ss, rfl, e0, r0, by omega⟩
end Go.Proofs.Ytcambbnmeiolgaa
