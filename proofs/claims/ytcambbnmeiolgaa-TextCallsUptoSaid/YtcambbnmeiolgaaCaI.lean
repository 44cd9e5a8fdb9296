import Derived.Test.YtcambbnmeiolgaaArgA
import Derived.Test.YtcambbnmeiolgaaCaH
namespace Go.Proofs.Ytcambbnmeiolgaa
open Go.ChangeShapes Go.WideShapes Go.ChangeAt Go.RowKit
/-- a slice of runes that came in -/
theorem runes_of {H : Type} {enc : TypeId × Value → H} {w : World} {held : Bool} {A : Option Addr} {n c : Nat} {d : DataW H} {p : List MemPlace} (h : DataW.Trod enc Try.prog w 0 (fun _ => true) held 64 (.slice A n c) d p) :
    ∃ bs : List Int, bs.length = n ∧ Rd w A (bs.map (Value.int .i32)) := by
  rcases open_rows (sz := 1) Try.underlying64 (by kernel_rfl) (by decide) h with ⟨rfl, rfl, _, _⟩ | ⟨b, o, D, hl, _, _, hA, _, hel⟩
  · exact ⟨[], rfl, .inl rfl⟩
  · obtain ⟨xs, h1, h2⟩ := choose_list n (fun i x => w.cell? ⟨b, o + i, none⟩ = some (.int .i32 x)) (fun i hi => by
      obtain ⟨cs, k, Pl, hc, hcell, htr⟩ := hel i (by omega)
      obtain ⟨x, rfl, _, _⟩ := DataW.trod_int Try.underlying21 htr
      exact ⟨x, by simpa using hcell 0 (by decide)⟩)
    refine ⟨xs, h1, ?_⟩
    rcases Nat.eq_zero_or_pos n with h0 | h0
    · left
      have : xs = [] := List.length_eq_zero_iff.1 (by omega)
      rw [this]; rfl
    · refine .inr ⟨b, o, hA (by omega), fun i hi => ?_⟩
      rw [List.length_map] at hi
      rw [h2 i hi]
      simp [List.getElem?_eq_getElem hi]
theorem weights_all_mem {H : Type} {P : Program} {e : TypeId} {d : DataW H} : ∀ {l : List (DataW H)}, d ∈ l → ∀ n ∈ d.weights P e, n ∈ DataW.weightsAll P e l
  | x :: l, h, n, hn => by
    simp only [DataW.weightsAll, List.mem_append]
    rcases List.mem_cons.1 h with rfl | h
    · exact .inl hn
    · exact .inr (weights_all_mem h n hn)
  | [], h, _, _ => by cases h
set_option maxRecDepth 100000 in
/-- strings that came in, with their sizes -/
theorem strs_small {H : Type} {enc : TypeId × Value → H} {w : World} {base j : Nat} {v : Value} {d : DataW H} {p : List MemPlace} {ts : List TypeId} {ds : List (DataW H)}
    (hv : Value.okWide Try.prog w .any base 38 v) (h : DataW.Trod enc Try.prog w 0 (fun _ => true) true 38 v d p)
    (hw : (DataW.weightsEach Try.prog ts ds).all (· ≤ reachBytes) = true) (hj : ts[j]? = some 38) (hd : ds[j]? = some d) :
    ∃ (A : Option Addr) (n c : Nat) (ss : List ByteArray), v = .slice A n c ∧ ss.length = n ∧ Rd w A (ss.map Value.string) ∧ n ≤ 140737488355328 ∧ ∀ s ∈ ss, s.size ≤ 140737488351232 := by
  obtain ⟨A, n, c, rfl⟩ := okWide_slice Try.underlying38 hv
  have l0 := rows_len (j := j) (sz := 1) (B := 16) hw hj hd Try.underlying38 (by kernel_rfl) (by decide) (by kernel_rfl) h
  have h' := h
  rcases open_rows (sz := 1) Try.underlying38 (by kernel_rfl) (by decide) h with ⟨rfl, rfl, _, _⟩ | ⟨b, o, D, hl, _, _, hA, hdd, hel⟩
  · exact ⟨none, 0, c, [], rfl, rfl, .inl rfl, by omega, by simp⟩
  · obtain ⟨xs, h1, h2⟩ := choose_list n (fun i x => w.cell? ⟨b, o + i, none⟩ = some (.string x) ∧ x.size ≤ 140737488351232) (fun i hi => by
      obtain ⟨cs, k, Pl, hc, hcell, htr⟩ := hel i (by omega)
      obtain ⟨x, rfl, hx⟩ := DataW.trod_string Try.underlying9 htr
      refine ⟨x, by simpa using hcell 0 (by decide), ?_⟩
      have hDi : D i = .lit (.string x.data.toList) := by simpa using congrArg Prod.fst hx.1
      have hm : D i ∈ (List.range n).map D := List.mem_map.2 ⟨i, List.mem_range.2 hi, rfl⟩
      have hwt : x.data.toList.length ∈ d.weights Try.prog 38 := by
        rw [hdd]
        simp only [DataW.weights, Try.underlying38, List.mem_cons, List.mem_append]
        refine .inr (.inl (weights_all_mem hm _ ?_))
        rw [hDi]
        simp [DataW.weights]
      have := List.all_eq_true.1 hw _ (DataW.weights_mem_each hj hd _ hwt)
      have h3 : x.data.toList.length ≤ reachBytes := by simpa using this
      rw [show x.data.toList.length = x.size from Array.length_toList] at h3
      exact h3)
    refine ⟨A, n, c, xs, rfl, h1, ?_, by omega, ?_⟩
    · rcases Nat.eq_zero_or_pos n with h0 | h0
      · left
        have : xs = [] := List.length_eq_zero_iff.1 (by omega)
        rw [this]; rfl
      · refine .inr ⟨b, o, hA (by omega), fun i hi => ?_⟩
        rw [List.length_map] at hi
        rw [(h2 i hi).1]
        simp [List.getElem?_eq_getElem hi]
    · intro s hs
      obtain ⟨i, hi, rfl⟩ := List.mem_iff_getElem.1 hs
      exact (h2 i hi).2
end Go.Proofs.Ytcambbnmeiolgaa
namespace Go.Proofs.Ytcambbnmeiolgaa
open Go.ChangeShapes Go.WideShapes Go.ChangeAt Go.RowKit
theorem bulk_pos {H : Type} (d : DataW H) : 1 ≤ Rows.uptoBulk d := by
  cases d with
  | lit l => cases l <;> simp [Rows.uptoBulk]
  | _ => simp [Rows.uptoBulk]
theorem bulk_all {H : Type} (ds : List (DataW H)) : ds.length ≤ Rows.uptoBulkAll ds := by
  induction ds with
  | nil => simp [Rows.uptoBulkAll]
  | cons d r ih =>
    have := bulk_pos d
    simp only [Rows.uptoBulkAll, List.length_cons]
    omega
theorem bulk_mem {H : Type} {ds : List (DataW H)} {d : DataW H} (h : d ∈ ds) : Rows.uptoBulk d ≤ Rows.uptoBulkAll ds := by
  induction ds with
  | nil => cases h
  | cons a r ih =>
    simp only [Rows.uptoBulkAll]
    rcases List.mem_cons.1 h with rfl | h
    · omega
    · have := ih h; omega
theorem bulk_slice {H : Type} {enc : TypeId × Value → H} {P : Program} {w : World} {held : Bool} {t e : TypeId} {A : Option Addr} {n c sz : Nat} {d : DataW H} {p : List MemPlace}
    (hk : Rows.uptoBulk d ≤ 1048576) (ht : P.underlying t = some (.slice e)) (hsz : P.cellsOf e = sz) (h0 : 0 < sz)
    (h : DataW.Trod enc P w 0 (fun _ => true) held t (.slice A n c) d p) : n ≤ 1048576 := by
  rcases open_rows ht hsz h0 h with ⟨_, rfl, rfl, rfl⟩ | ⟨b, o, D, hl, hm, _, _, rfl, _⟩
  · omega
  · simp only [Rows.uptoBulk] at hk
    have h3 := bulk_all ((List.range n).map D)
    simp at h3
    omega
/-- a piece: which stream, and its tokens -/
structure PcT where
  on : Bool
  A : Option Addr
  n : Nat
  c : Nat
  l : List Int
theorem piece_of {H : Type} {enc : TypeId × Value → H} {w : World} {held : Bool} {k : Nat} {cs : List Value} {x : DataW H × List MemPlace} (hc : cs.length = 2) (h : DataW.trod enc Try.prog w 0 (fun _ => true) held k 56 cs = some x) (hk : Rows.uptoBulk x.1 ≤ 1048576) :
    ∃ y : PcT, cs = [.bool y.on, .slice y.A y.n y.c] ∧ y.l.length = y.n ∧ y.n ≤ 1048576 ∧ Rd w y.A (I64 y.l) := by
  obtain ⟨c0, c1, rfl⟩ : ∃ c0 c1, cs = [c0, c1] := by
    match cs, hc with
    | [c0, c1], _ => exact ⟨c0, c1, rfl⟩
  obtain ⟨xs, m, rfl, hx, _, hl, hel⟩ := DataW.trod_struct Try.underlying56 h
  have h0 : DataW.trod enc Try.prog w 0 (fun _ => true) held m 4 (([c0, c1].drop 0).take (Try.prog.cellsOf 4)) = xs[0]? := hel 0 _ rfl
  have h1 : DataW.trod enc Try.prog w 0 (fun _ => true) held m 39 (([c0, c1].drop 1).take (Try.prog.cellsOf 39)) = xs[1]? := hel 1 _ rfl
  have hC0 : Try.prog.cellsOf 4 = 1 := by kernel_rfl
  have hC1 : Try.prog.cellsOf 39 = 1 := by kernel_rfl
  rw [hC0] at h0
  rw [hC1] at h1
  have hl2 : xs.length = 2 := hl
  obtain ⟨x0, x1, rfl⟩ : ∃ x0 x1, xs = [x0, x1] := by
    match xs, hl2 with
    | [a, b], _ => exact ⟨a, b, rfl⟩
  obtain ⟨b, hb, _⟩ := DataW.trod_bool Try.underlying4 h0
  obtain ⟨A, n, c, hv, ht⟩ := slice_val Try.underlying39 h1
  simp at hb
  obtain ⟨l, hl', rl, _⟩ := ints_of ht
  have hk1 : Rows.uptoBulk x1.1 ≤ 1048576 := by
    rw [hx] at hk
    simp only [Rows.uptoBulk, Rows.uptoBulkAll, List.map_cons, List.map_nil] at hk
    omega
  refine ⟨⟨b, A, n, c, l⟩, ?_, hl', bulk_slice (sz := 1) hk1 Try.underlying39 (by kernel_rfl) (by decide) ht, rl⟩
  rw [hb, hv]
/-- pieces that came in -/
theorem pieces_of {H : Type} {enc : TypeId × Value → H} {w : World} {held : Bool} {A : Option Addr} {n c : Nat} {d : DataW H} {p : List MemPlace} (h : DataW.Trod enc Try.prog w 0 (fun _ => true) held 53 (.slice A n c) d p) (hk : Rows.uptoBulk d ≤ 1048576) :
    ∃ ys : List PcT, ys.length = n ∧ n ≤ 1048576 ∧ ∀ (i : Nat) (hi : i < ys.length), ∃ b o, A = some ⟨b, o, none⟩ ∧ w.cell? ⟨b, o + i * 2, none⟩ = some (.bool ys[i].on) ∧ w.cell? ⟨b, o + i * 2 + 1, none⟩ = some (.slice ys[i].A ys[i].n ys[i].c) ∧ ys[i].l.length = ys[i].n ∧ ys[i].n ≤ 1048576 ∧ Rd w ys[i].A (I64 ys[i].l) := by
  have hn := bulk_slice (sz := 2) hk Try.underlying53 (by kernel_rfl) (by decide) h
  rcases open_rows (sz := 2) Try.underlying53 (by kernel_rfl) (by decide) h with ⟨rfl, rfl, _, _⟩ | ⟨b, o, D, hl, _, _, hA, hd, hel⟩
  · exact ⟨[], rfl, by omega, fun i hi => by simp at hi⟩
  · obtain ⟨ys, h1, h2⟩ := choose_list (α := PcT) n (fun i y => w.cell? ⟨b, o + i * 2, none⟩ = some (.bool y.on) ∧ w.cell? ⟨b, o + i * 2 + 1, none⟩ = some (.slice y.A y.n y.c) ∧ y.l.length = y.n ∧ y.n ≤ 1048576 ∧ Rd w y.A (I64 y.l)) (fun i hi => by
      obtain ⟨cs, k, Pl, hc, hcell, htr⟩ := hel i (by omega)
      have hm : D i ∈ (List.range n).map D := List.mem_map.2 ⟨i, List.mem_range.2 hi, rfl⟩
      have hki : Rows.uptoBulk (D i) ≤ 1048576 := by
        have := bulk_mem hm
        rw [hd] at hk
        simp only [Rows.uptoBulk] at hk
        omega
      obtain ⟨y, rfl, e1, e2, e3⟩ := piece_of hc htr hki
      exact ⟨y, by simpa using hcell 0 (by decide), by simpa using hcell 1 (by decide), e1, e2, e3⟩)
    refine ⟨ys, h1, hn, fun i hi => ?_⟩
    exact ⟨b, o, hA (by omega), h2 i hi⟩
end Go.Proofs.Ytcambbnmeiolgaa
namespace Go.Proofs.Ytcambbnmeiolgaa
open Go.ChangeShapes Go.WideShapes Go.ChangeAt Go.RowKit
theorem bulk_pair {H : Type} {d : DataW H} {ds : List (DataW H)} (hk : Rows.uptoBulk (DataW.agg ds) ≤ 1048576) (h : d ∈ ds) : Rows.uptoBulk d ≤ 1048576 := by
  have := bulk_mem h
  simp only [Rows.uptoBulk] at hk
  omega
set_option maxRecDepth 100000 in
set_option maxHeartbeats 1000000 in
theorem op_of {H : Type} {enc : TypeId × Value → H} {w : World} {held : Bool} {k : Nat} {cs : List Value} {x : DataW H × List MemPlace} (hc : cs.length = 6) (h : DataW.trod enc Try.prog w 0 (fun _ => true) held k 41 cs = some x) (hk : Rows.uptoBulk x.1 ≤ 1048576) :
    ∃ y : OpT, cs = (opC y).toList ∧ OpOk w y := by
  obtain ⟨c0, c1, c2, c3, c4, c5, rfl⟩ : ∃ c0 c1 c2 c3 c4 c5, cs = [c0, c1, c2, c3, c4, c5] := by
    match cs, hc with
    | [c0, c1, c2, c3, c4, c5], _ => exact ⟨c0, c1, c2, c3, c4, c5, rfl⟩
  obtain ⟨xs, m, rfl, hx, _, hl, hel⟩ := DataW.trod_struct Try.underlying41 h
  have h0 : DataW.trod enc Try.prog w 0 (fun _ => true) held m 3 (([c0, c1, c2, c3, c4, c5].drop 0).take (Try.prog.cellsOf 3)) = xs[0]? := hel 0 _ rfl
  have h1 : DataW.trod enc Try.prog w 0 (fun _ => true) held m 3 (([c0, c1, c2, c3, c4, c5].drop 1).take (Try.prog.cellsOf 3)) = xs[1]? := hel 1 _ rfl
  have h2 : DataW.trod enc Try.prog w 0 (fun _ => true) held m 37 (([c0, c1, c2, c3, c4, c5].drop 2).take (Try.prog.cellsOf 37)) = xs[2]? := hel 2 _ rfl
  have h3 : DataW.trod enc Try.prog w 0 (fun _ => true) held m 38 (([c0, c1, c2, c3, c4, c5].drop 4).take (Try.prog.cellsOf 38)) = xs[3]? := hel 3 _ rfl
  have h4 : DataW.trod enc Try.prog w 0 (fun _ => true) held m 39 (([c0, c1, c2, c3, c4, c5].drop 5).take (Try.prog.cellsOf 39)) = xs[4]? := hel 4 _ rfl
  have hC0 : Try.prog.cellsOf 3 = 1 := by kernel_rfl
  have hC2 : Try.prog.cellsOf 37 = 2 := by kernel_rfl
  have hC3 : Try.prog.cellsOf 38 = 1 := by kernel_rfl
  have hC4 : Try.prog.cellsOf 39 = 1 := by kernel_rfl
  rw [hC0] at h0 h1
  rw [hC2] at h2
  rw [hC3] at h3
  rw [hC4] at h4
  have hl2 : xs.length = 5 := hl
  obtain ⟨x0, x1, x2, x3, x4, rfl⟩ : ∃ x0 x1 x2 x3 x4, xs = [x0, x1, x2, x3, x4] := by
    match xs, hl2 with
    | [a, b, c, d, e], _ => exact ⟨a, b, c, d, e, rfl⟩
  rw [hx] at hk
  obtain ⟨kd, hkd, _⟩ := DataW.trod_int Try.underlying3 h0
  obtain ⟨on, hon, _⟩ := DataW.trod_int Try.underlying3 h1
  simp at hkd hon
  have b2 := bulk_pair (d := x2.1) hk (by simp)
  have b3 := bulk_pair (d := x3.1) hk (by simp)
  have b4 := bulk_pair (d := x4.1) hk (by simp)
  obtain ⟨S, sn, sc, hsv, ts⟩ := slice_val Try.underlying38 h3
  obtain ⟨K, kn, kc, hkv, tk⟩ := slice_val Try.underlying39 h4
  obtain ⟨ys, m2, rfl, hx2, _, hl3, hel2⟩ := DataW.trod_struct Try.underlying37 h2
  have g0 : DataW.trod enc Try.prog w 0 (fun _ => true) held m2 34 (([c2, c3].drop 0).take (Try.prog.cellsOf 34)) = ys[0]? := hel2 0 _ rfl
  have g1 : DataW.trod enc Try.prog w 0 (fun _ => true) held m2 35 (([c2, c3].drop 1).take (Try.prog.cellsOf 35)) = ys[1]? := hel2 1 _ rfl
  have hD0 : Try.prog.cellsOf 34 = 1 := by kernel_rfl
  have hD1 : Try.prog.cellsOf 35 = 1 := by kernel_rfl
  rw [hD0] at g0
  rw [hD1] at g1
  have hl4 : ys.length = 2 := hl3
  obtain ⟨y0, y1, rfl⟩ : ∃ y0 y1, ys = [y0, y1] := by
    match ys, hl4 with
    | [a, b], _ => exact ⟨a, b, rfl⟩
  rw [hx2] at b2
  have d0 := bulk_pair (d := y0.1) b2 (by simp)
  have d1 := bulk_pair (d := y1.1) b2 (by simp)
  obtain ⟨A, n, a, hav, ta⟩ := slice_val Try.underlying34 g0
  obtain ⟨A', mm, a', hav', ta'⟩ := slice_val Try.underlying35 g1
  obtain ⟨bs, e0, r0, w0⟩ := bytes_of ta
  obtain ⟨ps, e1, r1, w1⟩ := pairs_of ta'
  obtain ⟨ss, e2, r2⟩ := strs_of ts
  obtain ⟨l, e3, r3, _⟩ := ints_of tk
  have n0 := bulk_slice (sz := 1) d0 Try.underlying34 (by kernel_rfl) (by decide) ta
  have n1 := bulk_slice (sz := 2) d1 Try.underlying35 (by kernel_rfl) (by decide) ta'
  have n2 := bulk_slice (sz := 1) b3 Try.underlying38 (by kernel_rfl) (by decide) ts
  have n3 := bulk_slice (sz := 1) b4 Try.underlying39 (by kernel_rfl) (by decide) tk
  have q2 : sn ≤ sc := by
    rcases open_rows (sz := 1) Try.underlying38 (by kernel_rfl) (by decide) ts with ⟨_, rfl, _, _⟩ | ⟨_, _, _, hl, _⟩ <;> omega
  have q3 : kn ≤ kc := by
    rcases open_rows (sz := 1) Try.underlying39 (by kernel_rfl) (by decide) tk with ⟨_, rfl, _, _⟩ | ⟨_, _, _, hl, _⟩ <;> omega
  refine ⟨⟨kd, on, A, n, a, A', mm, a', bs, ps, S, sn, sc, ss, K, kn, kc, l⟩, ?_, ⟨⟨e0, e1, by show n * 1 ≤ _; omega, by show mm * 16 ≤ _; omega, r0, r1⟩, ⟨w0, w1⟩, n0, n1, r2, e2, n2, r3, e3, n3, q2, q3⟩⟩
  simp only [hkd, hon, hav, hav', hsv, hkv]
/-- a script that came in -/
theorem script_of {H : Type} {enc : TypeId × Value → H} {w : World} {held : Bool} {A : Option Addr} {n c : Nat} {d : DataW H} {p : List MemPlace} (h : DataW.Trod enc Try.prog w 0 (fun _ => true) held 22 (.slice A n c) d p) (hk : Rows.uptoBulk d ≤ 1048576) :
    ∃ os : List OpT, os.length = n ∧ n ≤ 1048576 ∧ ScOk w A os := by
  have hn := bulk_slice (sz := 6) hk Try.underlying22 (by kernel_rfl) (by decide) h
  rcases open_rows (sz := 6) Try.underlying22 (by kernel_rfl) (by decide) h with ⟨rfl, rfl, _, _⟩ | ⟨b, o, D, hl, _, _, hA, hd, hel⟩
  · exact ⟨[], rfl, by omega, fun i hi => by simp at hi⟩
  · obtain ⟨ys, h1, h2⟩ := choose_list (α := OpT) n (fun i y => (∀ j, j < 6 → w.cell? ⟨b, o + i * 6 + j, none⟩ = (opC y)[j]?) ∧ OpOk w y) (fun i hi => by
      obtain ⟨cs, k, Pl, hc, hcell, htr⟩ := hel i (by omega)
      have hm : D i ∈ (List.range n).map D := List.mem_map.2 ⟨i, List.mem_range.2 hi, rfl⟩
      have hki : Rows.uptoBulk (D i) ≤ 1048576 := by
        have := bulk_mem hm
        rw [hd] at hk
        simp only [Rows.uptoBulk] at hk
        omega
      obtain ⟨y, rfl, hy⟩ := op_of hc htr hki
      refine ⟨y, fun j hj => ?_, hy⟩
      have := hcell j hj
      simpa using this)
    exact ⟨ys, h1, hn, fun i hi => ⟨b, o, hA (by omega), (h2 i hi).1, (h2 i hi).2⟩⟩
end Go.Proofs.Ytcambbnmeiolgaa
