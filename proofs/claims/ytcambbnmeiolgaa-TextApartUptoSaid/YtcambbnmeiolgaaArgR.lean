import Derived.Test.YtcambbnmeiolgaaArgA
namespace Go.Proofs.Ytcambbnmeiolgaa
open Go.ChangeShapes Go.WideShapes Go.ChangeAt Go.RowKit
/-- a slice of runes that came in -/
theorem runes_of {H : Type} {enc : TypeId × Value → H} {w : World} {held : Bool} {A : Option Addr} {n c : Nat} {d : DataW H} {p : List MemPlace} (h : DataW.Trod enc Try.prog w 0 (fun _ => true) held 64 (.slice A n c) d p) :
    ∃ bs : List Int, bs.length = n ∧ Rd w A (bs.map (Value.int .i32)) := by
  rcases open_rows (sz := 1) Try.underlying64 (by kernel_rfl) (by decide) h with ⟨rfl, rfl, _, _⟩ | ⟨b, o, D, hl, _, _, hA, _, hel⟩
  · exact ⟨[], rfl, .inl rfl⟩
  · obtain ⟨xs, h1, h2⟩ := choose_list n (fun i x => w.cell? ⟨b, o + i, none⟩ = some (.int .i32 x)) (fun i hi => by
      obtain ⟨cs, k, Pl, hc, hcell, htr⟩ := hel i (by omega)
      obtain ⟨x, rfl, _, _⟩ := DataW.trod_int Try.underlying21 htr
      exact ⟨x, by simpa using hcell 0 (by decide)⟩)
    refine ⟨xs, h1, ?_⟩
    rcases Nat.eq_zero_or_pos n with h0 | h0
    · left
      have : xs = [] := List.length_eq_zero_iff.1 (by omega)
      rw [this]; rfl
    · refine .inr ⟨b, o, hA (by omega), fun i hi => ?_⟩
      rw [List.length_map] at hi
      rw [h2 i hi]
      simp [List.getElem?_eq_getElem hi]
theorem weights_all_mem {H : Type} {P : Program} {e : TypeId} {d : DataW H} : ∀ {l : List (DataW H)}, d ∈ l → ∀ n ∈ d.weights P e, n ∈ DataW.weightsAll P e l
  | x :: l, h, n, hn => by
    simp only [DataW.weightsAll, List.mem_append]
    rcases List.mem_cons.1 h with rfl | h
    · exact .inl hn
    · exact .inr (weights_all_mem h n hn)
  | [], h, _, _ => by cases h
set_option maxRecDepth 100000 in
/-- strings that came in, with their sizes -/
theorem strs_small {H : Type} {enc : TypeId × Value → H} {w : World} {base j : Nat} {v : Value} {d : DataW H} {p : List MemPlace} {ts : List TypeId} {ds : List (DataW H)}
    (hv : Value.okWide Try.prog w .any base 38 v) (h : DataW.Trod enc Try.prog w 0 (fun _ => true) true 38 v d p)
    (hw : (DataW.weightsEach Try.prog ts ds).all (· ≤ reachBytes) = true) (hj : ts[j]? = some 38) (hd : ds[j]? = some d) :
    ∃ (A : Option Addr) (n c : Nat) (ss : List ByteArray), v = .slice A n c ∧ ss.length = n ∧ Rd w A (ss.map Value.string) ∧ n ≤ 140737488355328 ∧ ∀ s ∈ ss, s.size ≤ 140737488351232 := by
  obtain ⟨A, n, c, rfl⟩ := okWide_slice Try.underlying38 hv
  have l0 := rows_len (j := j) (sz := 1) (B := 16) hw hj hd Try.underlying38 (by kernel_rfl) (by decide) (by kernel_rfl) h
  have h' := h
  rcases open_rows (sz := 1) Try.underlying38 (by kernel_rfl) (by decide) h with ⟨rfl, rfl, _, _⟩ | ⟨b, o, D, hl, _, _, hA, hdd, hel⟩
  · exact ⟨none, 0, c, [], rfl, rfl, .inl rfl, by omega, by simp⟩
  · obtain ⟨xs, h1, h2⟩ := choose_list n (fun i x => w.cell? ⟨b, o + i, none⟩ = some (.string x) ∧ x.size ≤ 140737488351232) (fun i hi => by
      obtain ⟨cs, k, Pl, hc, hcell, htr⟩ := hel i (by omega)
      obtain ⟨x, rfl, hx⟩ := DataW.trod_string Try.underlying9 htr
      refine ⟨x, by simpa using hcell 0 (by decide), ?_⟩
      have hDi : D i = .lit (.string x.data.toList) := by simpa using congrArg Prod.fst hx.1
      have hm : D i ∈ (List.range n).map D := List.mem_map.2 ⟨i, List.mem_range.2 hi, rfl⟩
      have hwt : x.data.toList.length ∈ d.weights Try.prog 38 := by
        rw [hdd]
        simp only [DataW.weights, Try.underlying38, List.mem_cons, List.mem_append]
        refine .inr (.inl (weights_all_mem hm _ ?_))
        rw [hDi]
        simp [DataW.weights]
      have := List.all_eq_true.1 hw _ (DataW.weights_mem_each hj hd _ hwt)
      have h3 : x.data.toList.length ≤ reachBytes := by simpa using this
      rw [show x.data.toList.length = x.size from Array.length_toList] at h3
      exact h3)
    refine ⟨A, n, c, xs, rfl, h1, ?_, by omega, ?_⟩
    · rcases Nat.eq_zero_or_pos n with h0 | h0
      · left
        have : xs = [] := List.length_eq_zero_iff.1 (by omega)
        rw [this]; rfl
      · refine .inr ⟨b, o, hA (by omega), fun i hi => ?_⟩
        rw [List.length_map] at hi
        rw [(h2 i hi).1]
        simp [List.getElem?_eq_getElem hi]
    · intro s hs
      obtain ⟨i, hi, rfl⟩ := List.mem_iff_getElem.1 hs
      exact (h2 i hi).2
end Go.Proofs.Ytcambbnmeiolgaa
