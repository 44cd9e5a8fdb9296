import Derived.Test.YtobklhnechbpaaaOpen
import Derived.Test.YtobklhnechbpaaaPieces
import Derived.Lib.SmallJoins
namespace Go.Proofs.Ytobklhnechbpaaa
open Go.ChangeShapes Go.WideShapes Go.ChangeAt Go.RowKit

theorem choose_list {α : Type} (n : Nat) (p : Nat → α → Prop) (h : ∀ i, i < n → ∃ x, p i x) : ∃ xs : List α, xs.length = n ∧ ∀ (i : Nat) (hi : i < xs.length), p i xs[i] := by
  induction n with
  | zero => exact ⟨[], rfl, fun i hi => by simp at hi⟩
  | succ n ih =>
    obtain ⟨xs, h1, h2⟩ := ih (fun i hi => h i (by omega))
    obtain ⟨x, hx⟩ := h n (by omega)
    refine ⟨xs ++ [x], by simp [h1], fun i hi => ?_⟩
    rcases Nat.lt_or_ge i xs.length with h3 | h3
    · rw [List.getElem_append_left h3]
      exact h2 i h3
    · have : i = xs.length := by simp at hi; omega
      subst this
      simpa [h1] using hx
theorem sized_part {H : Type} {P : Program} {ts : List TypeId} {ds parts : List (DataW H)} {j : Nat} {t : TypeId} {fs : Array Field} (h : (DataW.weightsEach P ts ds).all (· ≤ reachBytes) = true) (ht : ts[j]? = some t) (hd : ds[j]? = some (.agg parts))
    (hu : P.underlying t = some (.struct fs)) : (DataW.weightsEach P (fs.toList.map (·.type)) parts).all (· ≤ reachBytes) = true := by
  rw [List.all_eq_true] at *
  intro n hn
  exact h n (DataW.weights_mem_each ht hd n (by simp only [DataW.weights, hu]; exact hn))
theorem slice_val {H : Type} {enc : TypeId × Value → H} {P : Program} {w : World} {held : Bool} {n : Nat} {t e : TypeId} {v : Value} {x : DataW H × List MemPlace} (ht : P.underlying t = some (.slice e))
    (h : DataW.trod enc P w 0 (fun _ => true) held n t [v] = some x) : ∃ A l c, v = .slice A l c ∧ DataW.Trod enc P w 0 (fun _ => true) held t (.slice A l c) x.1 x.2 := by
  have : ∃ A l c, v = .slice A l c := by
    rcases Go.Deep.open_slice ht h with ⟨hcs, _⟩ | ⟨a, l, c, _, _, _, _, hcs, _⟩
    · exact ⟨_, _, _, by simpa using hcs⟩
    · exact ⟨_, _, _, by simpa using hcs⟩
  obtain ⟨A, l, c, rfl⟩ := this
  exact ⟨A, l, c, rfl, n, h⟩
/-- a slice of bytes that came in -/
theorem bytes_of {H : Type} {enc : TypeId × Value → H} {w : World} {held : Bool} {A : Option Addr} {n c : Nat} {d : DataW H} {p : List MemPlace} (h : DataW.Trod enc Try.prog w 0 (fun _ => true) held 22 (.slice A n c) d p) :
    ∃ bs : List Int, bs.length = n ∧ Rd w A (B8 bs) ∧ ∀ x ∈ bs, (Lit.int .u8 x).wf = true := by
  rcases open_rows (sz := 1) Try.underlying22 (by kernel_rfl) (by decide) h with ⟨rfl, rfl, _, _⟩ | ⟨b, o, D, hl, _, _, hA, _, hel⟩
  · exact ⟨[], rfl, .inl rfl, by simp⟩
  · obtain ⟨xs, h1, h2⟩ := choose_list n (fun i x => w.cell? ⟨b, o + i, none⟩ = some (.int .u8 x) ∧ (Lit.int .u8 x).wf = true) (fun i hi => by
      obtain ⟨cs, k, Pl, hc, hcell, htr⟩ := hel i (by omega)
      obtain ⟨x, rfl, _, hw⟩ := DataW.trod_int Try.underlying5 htr
      exact ⟨x, by simpa using hcell 0 (by decide), hw⟩)
    refine ⟨xs, h1, ?_, ?_⟩
    · rcases Nat.eq_zero_or_pos n with h0 | h0
      · left
        have : xs = [] := List.length_eq_zero_iff.1 (by omega)
        rw [this]; rfl
      · refine .inr ⟨b, o, hA (by omega), fun i hi => ?_⟩
        rw [B8_length] at hi
        rw [(h2 i hi).1]
        simp [B8, List.getElem?_eq_getElem hi]
    · intro x hx
      obtain ⟨i, hi, rfl⟩ := List.mem_iff_getElem.1 hx
      exact (h2 i hi).2
/-- a slice of numbers that came in -/
theorem ints_of {H : Type} {enc : TypeId × Value → H} {w : World} {held : Bool} {A : Option Addr} {n c : Nat} {d : DataW H} {p : List MemPlace} (h : DataW.Trod enc Try.prog w 0 (fun _ => true) held 39 (.slice A n c) d p) :
    ∃ bs : List Int, bs.length = n ∧ Rd w A (I64 bs) ∧ ∀ x ∈ bs, (Lit.int .i64 x).wf = true := by
  rcases open_rows (sz := 1) Try.underlying39 (by kernel_rfl) (by decide) h with ⟨rfl, rfl, _, _⟩ | ⟨b, o, D, hl, _, _, hA, _, hel⟩
  · exact ⟨[], rfl, .inl rfl, by simp⟩
  · obtain ⟨xs, h1, h2⟩ := choose_list n (fun i x => w.cell? ⟨b, o + i, none⟩ = some (.int .i64 x) ∧ (Lit.int .i64 x).wf = true) (fun i hi => by
      obtain ⟨cs, k, Pl, hc, hcell, htr⟩ := hel i (by omega)
      obtain ⟨x, rfl, _, hw⟩ := DataW.trod_int Try.underlying3 htr
      exact ⟨x, by simpa using hcell 0 (by decide), hw⟩)
    refine ⟨xs, h1, ?_, ?_⟩
    · rcases Nat.eq_zero_or_pos n with h0 | h0
      · left
        have : xs = [] := List.length_eq_zero_iff.1 (by omega)
        rw [this]; rfl
      · refine .inr ⟨b, o, hA (by omega), fun i hi => ?_⟩
        rw [I64_length] at hi
        rw [(h2 i hi).1]
        simp [I64, List.getElem?_eq_getElem hi]
    · intro x hx
      obtain ⟨i, hi, rfl⟩ := List.mem_iff_getElem.1 hx
      exact (h2 i hi).2
theorem pair_of {H : Type} {enc : TypeId × Value → H} {w : World} {held : Bool} {k : Nat} {cs : List Value} {x : DataW H × List MemPlace} (hc : cs.length = 2) (h : DataW.trod enc Try.prog w 0 (fun _ => true) held k 51 cs = some x) :
    ∃ a b, cs = [.int .i64 a, .int .i64 b] ∧ (Lit.int .i64 a).wf = true ∧ (Lit.int .i64 b).wf = true := by
  obtain ⟨c0, c1, rfl⟩ : ∃ c0 c1, cs = [c0, c1] := by
    match cs, hc with
    | [c0, c1], _ => exact ⟨c0, c1, rfl⟩
  obtain ⟨xs, m, rfl, _, _, hl, hel⟩ := DataW.trod_array Try.underlying51 h
  have hC : Try.prog.cellsOf 3 = 1 := by kernel_rfl
  have h0 := hel 0 (by decide)
  have h1 := hel 1 (by decide)
  rw [hC] at h0 h1
  rw [List.getElem?_eq_getElem (by omega)] at h0 h1
  obtain ⟨a, ha, _, wa⟩ := DataW.trod_int Try.underlying3 h0
  obtain ⟨b, hb, _, wb⟩ := DataW.trod_int Try.underlying3 h1
  simp at ha hb
  subst ha hb
  exact ⟨a, b, rfl, wa, wb⟩
/-- a slice of pairs that came in -/
theorem pairs_of {H : Type} {enc : TypeId × Value → H} {w : World} {held : Bool} {A : Option Addr} {n c : Nat} {d : DataW H} {p : List MemPlace} (h : DataW.Trod enc Try.prog w 0 (fun _ => true) held 23 (.slice A n c) d p) :
    ∃ ps : List (Int × Int), ps.length = n ∧ Rd w A (PR ps) ∧ ∀ x ∈ ps, (Lit.int .i64 x.1).wf = true ∧ (Lit.int .i64 x.2).wf = true := by
  rcases open_rows (sz := 2) Try.underlying23 (by kernel_rfl) (by decide) h with ⟨rfl, rfl, _, _⟩ | ⟨b, o, D, hl, _, _, hA, _, hel⟩
  · exact ⟨[], rfl, .inl rfl, by simp⟩
  · obtain ⟨xs, h1, h2⟩ := choose_list (α := Int × Int) n (fun i x => w.cell? ⟨b, o + i * 2, none⟩ = some (.int .i64 x.1) ∧ w.cell? ⟨b, o + i * 2 + 1, none⟩ = some (.int .i64 x.2) ∧ (Lit.int .i64 x.1).wf = true ∧ (Lit.int .i64 x.2).wf = true) (fun i hi => by
      obtain ⟨cs, k, Pl, hc, hcell, htr⟩ := hel i (by omega)
      obtain ⟨x, y, rfl, wx, wy⟩ := pair_of hc htr
      exact ⟨(x, y), by simpa using hcell 0 (by decide), by simpa using hcell 1 (by decide), wx, wy⟩)
    refine ⟨xs, h1, ?_, ?_⟩
    · rcases Nat.eq_zero_or_pos n with h0 | h0
      · left
        have : xs = [] := List.length_eq_zero_iff.1 (by omega)
        rw [this]; rfl
      · refine .inr ⟨b, o, hA (by omega), fun i hi => ?_⟩
        rw [PR_length] at hi
        obtain ⟨g0, g1⟩ := PR_get xs (i / 2) (by omega)
        obtain ⟨c0, c1, _⟩ := h2 (i / 2) (by omega)
        rcases Nat.mod_two_eq_zero_or_one i with hm | hm
        · have e : i = 2 * (i / 2) := by omega
          rw [show o + i = o + i / 2 * 2 by omega, c0, ← g0, ← e]
        · have e : i = 2 * (i / 2) + 1 := by omega
          rw [show o + i = o + i / 2 * 2 + 1 by omega, c1, ← g1, ← e]
    · intro x hx
      obtain ⟨i, hi, rfl⟩ := List.mem_iff_getElem.1 hx
      exact (h2 i hi).2.2
/-- a vocabulary that came in -/
theorem voc_of {H : Type} {enc : TypeId × Value → H} {w : World} {base j : Nat} {v : Value} {d : DataW H} {p : List MemPlace} {ts : List TypeId} {ds : List (DataW H)}
    (hv : Value.okWide Try.prog w .any base 25 v) (h : DataW.Trod enc Try.prog w 0 (fun _ => true) true 25 v d p)
    (hw : (DataW.weightsEach Try.prog ts ds).all (· ≤ reachBytes) = true) (hj : ts[j]? = some 25) (hd : ds[j]? = some d) :
    ∃ A A' n m c c' bs ps, v = .agg #[.slice A n c, .slice A' m c'] ∧ Voc w A A' n m bs ps ∧ Wf bs ps ∧ n * 1 ≤ 140737488351232 ∧ m * 16 ≤ 140737488351232 := by
  obtain ⟨v0, v1, y0, y1, k, rfl, rfl, _, g0, g1⟩ := Go.Joins.open_agg2 Try.underlying25 (by kernel_rfl) (by kernel_rfl) hv h
  obtain ⟨A, n, c, rfl, t0⟩ := slice_val Try.underlying22 g0
  obtain ⟨A', m, c', rfl, t1⟩ := slice_val Try.underlying23 g1
  obtain ⟨bs, e0, r0, w0⟩ := bytes_of t0
  obtain ⟨ps, e1, r1, w1⟩ := pairs_of t1
  have hw' := sized_part hw hj hd Try.underlying25
  have l0 := rows_len (j := 0) (sz := 1) (B := 1) hw' rfl rfl Try.underlying22 (by kernel_rfl) (by decide) (by kernel_rfl) t0
  have l1 := rows_len (j := 1) (sz := 2) (B := 16) hw' rfl rfl Try.underlying23 (by kernel_rfl) (by decide) (by kernel_rfl) t1
  have k0 : n ≤ c := by
    rcases open_rows (sz := 1) Try.underlying22 (by kernel_rfl) (by decide) t0 with ⟨_, rfl, _, _⟩ | ⟨_, _, _, hl, _⟩ <;> omega
  have k1 : m ≤ c' := by
    rcases open_rows (sz := 2) Try.underlying23 (by kernel_rfl) (by decide) t1 with ⟨_, rfl, _, _⟩ | ⟨_, _, _, hl, _⟩ <;> omega
  exact ⟨A, A', n, m, c, c', bs, ps, rfl, ⟨e0, e1, by omega, by omega, r0, r1⟩, ⟨w0, w1⟩, by omega, by omega⟩
end Go.Proofs.Ytobklhnechbpaaa
