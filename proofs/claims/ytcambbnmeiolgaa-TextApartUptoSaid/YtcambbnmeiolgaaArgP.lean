import Derived.Test.YtcambbnmeiolgaaArgR
namespace Go.Proofs.Ytcambbnmeiolgaa
open Go.ChangeShapes Go.WideShapes Go.ChangeAt Go.RowKit
theorem bulk_pos {H : Type} (d : DataW H) : 1 ≤ Rows.uptoBulk d := by
  cases d with
  | lit l => cases l <;> simp [Rows.uptoBulk]
  | _ => simp [Rows.uptoBulk]
theorem bulk_all {H : Type} (ds : List (DataW H)) : ds.length ≤ Rows.uptoBulkAll ds := by
  induction ds with
  | nil => simp [Rows.uptoBulkAll]
  | cons d r ih =>
    have := bulk_pos d
    simp only [Rows.uptoBulkAll, List.length_cons]
    omega
theorem bulk_mem {H : Type} {ds : List (DataW H)} {d : DataW H} (h : d ∈ ds) : Rows.uptoBulk d ≤ Rows.uptoBulkAll ds := by
  induction ds with
  | nil => cases h
  | cons a r ih =>
    simp only [Rows.uptoBulkAll]
    rcases List.mem_cons.1 h with rfl | h
    · omega
    · have := ih h; omega
theorem bulk_slice {H : Type} {enc : TypeId × Value → H} {P : Program} {w : World} {held : Bool} {t e : TypeId} {A : Option Addr} {n c sz : Nat} {d : DataW H} {p : List MemPlace}
    (hk : Rows.uptoBulk d ≤ 1048576) (ht : P.underlying t = some (.slice e)) (hsz : P.cellsOf e = sz) (h0 : 0 < sz)
    (h : DataW.Trod enc P w 0 (fun _ => true) held t (.slice A n c) d p) : n ≤ 1048576 := by
  rcases open_rows ht hsz h0 h with ⟨_, rfl, rfl, rfl⟩ | ⟨b, o, D, hl, hm, _, _, rfl, _⟩
  · omega
  · simp only [Rows.uptoBulk] at hk
    have h3 := bulk_all ((List.range n).map D)
    simp at h3
    omega
/-- a piece: which stream, and its tokens -/
structure PcT where
  on : Bool
  A : Option Addr
  n : Nat
  c : Nat
  l : List Int
theorem piece_of {H : Type} {enc : TypeId × Value → H} {w : World} {held : Bool} {k : Nat} {cs : List Value} {x : DataW H × List MemPlace} (hc : cs.length = 2) (h : DataW.trod enc Try.prog w 0 (fun _ => true) held k 56 cs = some x) (hk : Rows.uptoBulk x.1 ≤ 1048576) :
    ∃ y : PcT, cs = [.bool y.on, .slice y.A y.n y.c] ∧ y.l.length = y.n ∧ y.n ≤ 1048576 ∧ Rd w y.A (I64 y.l) := by
  obtain ⟨c0, c1, rfl⟩ : ∃ c0 c1, cs = [c0, c1] := by
    match cs, hc with
    | [c0, c1], _ => exact ⟨c0, c1, rfl⟩
  obtain ⟨xs, m, rfl, hx, _, hl, hel⟩ := DataW.trod_struct Try.underlying56 h
  have h0 : DataW.trod enc Try.prog w 0 (fun _ => true) held m 4 (([c0, c1].drop 0).take (Try.prog.cellsOf 4)) = xs[0]? := hel 0 _ rfl
  have h1 : DataW.trod enc Try.prog w 0 (fun _ => true) held m 39 (([c0, c1].drop 1).take (Try.prog.cellsOf 39)) = xs[1]? := hel 1 _ rfl
  have hC0 : Try.prog.cellsOf 4 = 1 := by kernel_rfl
  have hC1 : Try.prog.cellsOf 39 = 1 := by kernel_rfl
  rw [hC0] at h0
  rw [hC1] at h1
  have hl2 : xs.length = 2 := hl
  obtain ⟨x0, x1, rfl⟩ : ∃ x0 x1, xs = [x0, x1] := by
    match xs, hl2 with
    | [a, b], _ => exact ⟨a, b, rfl⟩
  obtain ⟨b, hb, _⟩ := DataW.trod_bool Try.underlying4 h0
  obtain ⟨A, n, c, hv, ht⟩ := slice_val Try.underlying39 h1
  simp at hb
  obtain ⟨l, hl', rl, _⟩ := ints_of ht
  have hk1 : Rows.uptoBulk x1.1 ≤ 1048576 := by
    rw [hx] at hk
    simp only [Rows.uptoBulk, Rows.uptoBulkAll, List.map_cons, List.map_nil] at hk
    omega
  refine ⟨⟨b, A, n, c, l⟩, ?_, hl', bulk_slice (sz := 1) hk1 Try.underlying39 (by kernel_rfl) (by decide) ht, rl⟩
  rw [hb, hv]
/-- pieces that came in -/
theorem pieces_of {H : Type} {enc : TypeId × Value → H} {w : World} {held : Bool} {A : Option Addr} {n c : Nat} {d : DataW H} {p : List MemPlace} (h : DataW.Trod enc Try.prog w 0 (fun _ => true) held 53 (.slice A n c) d p) (hk : Rows.uptoBulk d ≤ 1048576) :
    ∃ ys : List PcT, ys.length = n ∧ n ≤ 1048576 ∧ ∀ (i : Nat) (hi : i < ys.length), ∃ b o, A = some ⟨b, o, none⟩ ∧ w.cell? ⟨b, o + i * 2, none⟩ = some (.bool ys[i].on) ∧ w.cell? ⟨b, o + i * 2 + 1, none⟩ = some (.slice ys[i].A ys[i].n ys[i].c) ∧ ys[i].l.length = ys[i].n ∧ ys[i].n ≤ 1048576 ∧ Rd w ys[i].A (I64 ys[i].l) := by
  have hn := bulk_slice (sz := 2) hk Try.underlying53 (by kernel_rfl) (by decide) h
  rcases open_rows (sz := 2) Try.underlying53 (by kernel_rfl) (by decide) h with ⟨rfl, rfl, _, _⟩ | ⟨b, o, D, hl, _, _, hA, hd, hel⟩
  · exact ⟨[], rfl, by omega, fun i hi => by simp at hi⟩
  · obtain ⟨ys, h1, h2⟩ := choose_list (α := PcT) n (fun i y => w.cell? ⟨b, o + i * 2, none⟩ = some (.bool y.on) ∧ w.cell? ⟨b, o + i * 2 + 1, none⟩ = some (.slice y.A y.n y.c) ∧ y.l.length = y.n ∧ y.n ≤ 1048576 ∧ Rd w y.A (I64 y.l)) (fun i hi => by
      obtain ⟨cs, k, Pl, hc, hcell, htr⟩ := hel i (by omega)
      have hm : D i ∈ (List.range n).map D := List.mem_map.2 ⟨i, List.mem_range.2 hi, rfl⟩
      have hki : Rows.uptoBulk (D i) ≤ 1048576 := by
        have := bulk_mem hm
        rw [hd] at hk
        simp only [Rows.uptoBulk] at hk
        omega
      obtain ⟨y, rfl, e1, e2, e3⟩ := piece_of hc htr hki
      exact ⟨y, by simpa using hcell 0 (by decide), by simpa using hcell 1 (by decide), e1, e2, e3⟩)
    refine ⟨ys, h1, hn, fun i hi => ?_⟩
    exact ⟨b, o, hA (by omega), h2 i hi⟩
end Go.Proofs.Ytcambbnmeiolgaa
