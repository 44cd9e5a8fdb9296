import Derived.Test.YtlcgkdhcdldlfaaInts
import Derived.Deep.OwnRows
import Derived.Deep.MidRow
namespace Go.Proofs.Ytlcgkdhcdldlfaa
open Go.RowKit

/-- a list with marks behind it -/
def mkd (l : List Int) : List Int := l ++ List.replicate 64 (-123456)
def mkdN (l : List Nd) : List Nd := l ++ List.replicate 64 (-123456, 0, 0)
theorem mkd_length (l : List Int) : (mkd l).length = l.length + 64 := by simp [mkd]
theorem mkdN_length (l : List Nd) : (mkdN l).length = l.length + 64 := by simp [mkdN]
/-- its first k places are filled -/
def mkA (L : List Int) (k : Nat) : Array Value := (I64 (L.take k ++ List.replicate (L.length - k) 0)).toArray
def mkN (L : List Nd) (k : Nat) : Array Value := (NC (L.take k ++ List.replicate (L.length - k) (0, 0, 0))).toArray
theorem mkA_get (L : List Int) (k : Nat) (h : k < L.length) : (mkA L k)[k]? = some (.int .i64 0) := by
  simp only [mkA, I64, List.getElem?_toArray, List.getElem?_map]
  rw [List.getElem?_append_right (by simp; omega)]
  simp [List.getElem?_replicate]
  omega
theorem mkA_set (L : List Int) (k : Nat) (h : k < L.length) : (mkA L k).setIfInBounds k (.int .i64 L[k]) = mkA L (k + 1) := by
  unfold mkA
  rw [List.setIfInBounds_toArray]
  congr 1
  have e : List.replicate (L.length - k) (0 : Int) = 0 :: List.replicate (L.length - (k + 1)) 0 := by
    rw [show L.length - k = (L.length - (k + 1)) + 1 by omega, List.replicate_succ]
  rw [e, List.take_succ_eq_append_getElem h]
  simp only [I64, List.map_append, List.map_cons, List.append_assoc, List.cons_append, List.nil_append]
  rw [List.set_append_right _ _ (by simp; omega)]
  simp
  have : min k L.length = k := by omega
  simp [this]
theorem mkA_full (L : List Int) : mkA L L.length = (I64 L).toArray := by simp [mkA]
theorem mkA_zero (L : List Int) : mkA L 0 = madeCells #[.int .i64 0] L.length := by
  apply Array.toList_inj.1
  rw [toList_madeCells_one]
  simp [mkA, I64]
theorem mkd_lt (l : List Int) (k : Nat) (h : k < l.length) (h' : k < (mkd l).length) : (mkd l)[k] = l[k] := by
  simp only [mkd]
  exact List.getElem_append_left h
theorem mkd_ge (l : List Int) (k : Nat) (h : l.length ≤ k) (h' : k < (mkd l).length) : (mkd l)[k] = -123456 := by
  simp only [mkd]
  rw [List.getElem_append_right h, List.getElem_replicate]

set_option maxRecDepth 100000 in
set_option maxHeartbeats 1000000 in
/-- marked -/
theorem marked_any (A : Option Addr) (n c : Nat) (l : List Int) (w : World) (hl : l.length = n) (hm : n * 8 ≤ 140737488351232) (hx : Rd w A (I64 l)) :
    Calls Try.prog 11 #[.slice A n c] w fun e w' => ∃ g, e = .returned (.slice (some ⟨g, 0, none⟩) n (n + 64)) ∧ Rd w' (some ⟨g, 0, none⟩) (I64 (mkd l)) ∧ w.heap.size ≤ g ∧ Below w.heap.size w w' := by
  obtain ⟨i0, hi, hz0, hz1, hz2⟩ := info_parts info3
  have hmk : ∀ u : World, (Instr.makeSlice 23 (.int .i64 ((n : Int) + 64)) (.int .i64 ((n : Int) + 64))).run Try.prog u = .ok (.slice (some ⟨u.heap.size, 0, none⟩) (n + 64) (n + 64)) (u.alloc (.cells (madeCells #[.int .i64 0] (n + 64)) 3)) := fun u => by
    have h := run_make (P := Try.prog) u 23 3 i0 (.int .i64 0) Try.underlying23 hi hz0 .i64 .i64 ((n : Int) + 64) ((n : Int) + 64) (by omega) (by omega) (by rw [hz2]; omega) (by omega)
    have e : ((n : Int) + 64).toNat = n + 64 := by omega
    rw [e, hz1, Nat.mul_one] at h
    exact h
  have hwr : IntKind.i64.wrap ((n : Int) + 64) = (n : Int) + 64 := IntWalk.i64_in _ (by omega)
  go_enter Try.func11, Try.ntmps11
  go_wp2
  have s0 : Blk (w.alloc (.cells (madeCells #[.int .i64 0] (n + 64)) 3)) w.heap.size (mkA (mkd l) 0) 3 := by
    rw [mkA_zero, mkd_length, hl]
    exact Blk.new w _ 3
  have hb0 : Below w.heap.size w (w.alloc (.cells (madeCells #[.int .i64 0] (n + 64)) 3)) := by go_grown
  clear hmk
  generalize w.alloc (.cells (madeCells #[.int .i64 0] (n + 64)) 3) = w1 at *
  go_loopw [4] (fun i wr => ∃ k : Nat, k ≤ n + 64 ∧ i = .int .i64 (k : Int) ∧ Blk wr w.heap.size (mkA (mkd l) k) 3 ∧ Below w.heap.size w wr) (fun i _ => n + 64 - (intOf i).toNat)
  case atStart => exact ⟨0, by omega, rfl, s0, hb0⟩
  case round =>
    clear s0 hb0
    obtain ⟨k, hk, rfl, p0, hb⟩ := hrel
    by_cases hlt : k < n + 64
    · have y0 : wr.cell? ⟨w.heap.size, k, none⟩ = some (.int .i64 0) := by rw [p0.cell, mkA_get _ _ (by rw [mkd_length]; omega)]
      have y1 := p0.frozen k
      have ea : (⟨w.heap.size, 0, none⟩ : Addr).add k = ⟨w.heap.size, k, none⟩ := by simpa using addr_add w.heap.size 0 k
      have S1 := Lib.hid (mkA_set (mkd l) k (by rw [mkd_length]; omega))
      have q1 := p0.set k (.int .i64 (-123456))
      have hb1 := hb.setCell (p := ⟨w.heap.size, k, none⟩) (by simp) (.int .i64 (-123456))
      by_cases hn : k < n
      · obtain ⟨b, o, rfl, u0⟩ := (hx.below hb1).i64 k (by omega)
        have eb := addr_add b o k
        have hv : (mkd l)[k]'(by rw [mkd_length]; omega) = l[k]'(by omega) := mkd_lt l k (by omega) _
        rw [hv] at S1
        generalize l[k]'(by omega) = z at *
        have z0 : (wr.setCell ⟨w.heap.size, k, none⟩ (.int .i64 (-123456))).cell? ⟨w.heap.size, k, none⟩ = some (.int .i64 (-123456)) := World.cell?_setCell_same' _ _ _ (by rw [y0]; rfl)
        have z1 := q1.frozen k
        clear hv
        have q2 := q1.set k (.int .i64 z)
        have hb2 := hb1.setCell (p := ⟨w.heap.size, k, none⟩) (by simp) (.int .i64 z)
        rw [Array.setIfInBounds_setIfInBounds, S1.out] at q2
        go_wp2
        go_roundw
        case rel => exact ⟨k + 1, by omega, by go_num, q2, hb2⟩
        case measure => simp [intOf]; omega
      · have hv : (mkd l)[k]'(by rw [mkd_length]; omega) = -123456 := mkd_ge l k (by omega) _
        rw [hv] at S1
        clear hv
        rw [S1.out] at q1
        go_wp2
        go_roundw
        case rel => exact ⟨k + 1, by omega, by go_num, q1, hb1⟩
        case measure => simp [intOf]; omega
    · obtain rfl : k = n + 64 := by omega
      rw [show n + 64 = (mkd l).length by rw [mkd_length]; omega, mkA_full] at p0
      go_wp2
      go_returns
      exact ⟨w.heap.size, rfl, .inr ⟨w.heap.size, 0, rfl, fun i hi => by rw [Nat.zero_add, p0.cell, List.getElem?_toArray]⟩, Nat.le_refl _, hb⟩

theorem mkN_get (L : List Nd) (k : Nat) (h : k < L.length) : (mkN L k)[3 * k]? = some (.int .i64 0) ∧ (mkN L k)[3 * k + 1]? = some (.int .i64 0) ∧ (mkN L k)[3 * k + 2]? = some (.int .i64 0) := by
  have hlen : k < (L.take k ++ List.replicate (L.length - k) ((0, 0, 0) : Nd)).length := by simp; omega
  have := NC_get (L.take k ++ List.replicate (L.length - k) ((0, 0, 0) : Nd)) k hlen
  rw [List.getElem_append_right (by simp; omega), List.getElem_replicate] at this
  simpa only [mkN, List.getElem?_toArray] using this
theorem NC_one (p : Nd) (r : List Nd) : NC (p :: r) = Value.int .i64 p.1 :: Value.int .i64 p.2.1 :: Value.int .i64 p.2.2 :: NC r := by simp [NC]
theorem mkN_set (L : List Nd) (k : Nat) (h : k < L.length) (x : Nd) (hx : L[k] = x) :
    ((((mkN L k).setIfInBounds (3 * k) (.int .i64 x.1)).setIfInBounds (3 * k + 1) (.int .i64 x.2.1)).setIfInBounds (3 * k + 2) (.int .i64 x.2.2)) = mkN L (k + 1) := by
  unfold mkN
  rw [List.setIfInBounds_toArray, List.setIfInBounds_toArray, List.setIfInBounds_toArray]
  congr 1
  have e : List.replicate (L.length - k) ((0, 0, 0) : Nd) = (0, 0, 0) :: List.replicate (L.length - (k + 1)) (0, 0, 0) := by
    rw [show L.length - k = (L.length - (k + 1)) + 1 by omega, List.replicate_succ]
  have hl : (NC (L.take k)).length = 3 * k := by rw [NC_length, List.length_take]; omega
  rw [e, List.take_succ_eq_append_getElem h, hx]
  rw [NC_append, NC_append, NC_append, NC_one, NC_one]
  rw [List.set_append_right _ _ (by omega), List.set_append_right _ _ (by omega), List.set_append_right _ _ (by omega)]
  rw [hl, show 3 * k - 3 * k = 0 by omega, show 3 * k + 1 - 3 * k = 1 by omega, show 3 * k + 2 - 3 * k = 2 by omega]
  simp [NC]
theorem mkN_full (L : List Nd) : mkN L L.length = (NC L).toArray := by simp [mkN]
theorem NC_zeros (n : Nat) : NC (List.replicate n (0, 0, 0)) = List.replicate (n * 3) (Value.int .i64 0) := by
  induction n with
  | zero => rfl
  | succ n ih =>
    rw [List.replicate_succ, NC_one, ih, show (n + 1) * 3 = n * 3 + 1 + 1 + 1 by omega, List.replicate_succ, List.replicate_succ, List.replicate_succ]
theorem made3 (n : Nat) : (madeCells #[.int .i64 0, .int .i64 0, .int .i64 0] n).toList = List.replicate n (Value.int .i64 0) := by
  unfold madeCells
  apply List.ext_getElem
  · simp
  · intro i h1 h2
    simp at h1
    simp
    have : i % 3 = 0 ∨ i % 3 = 1 ∨ i % 3 = 2 := by omega
    rcases this with h | h | h <;> rw [h] <;> rfl
theorem mkN_zero (L : List Nd) : mkN L 0 = madeCells #[.int .i64 0, .int .i64 0, .int .i64 0] (L.length * 3) := by
  apply Array.toList_inj.1
  rw [made3]
  simp [mkN, NC_zeros]
theorem mkdN_lt (l : List Nd) (k : Nat) (h : k < l.length) (h' : k < (mkdN l).length) : (mkdN l)[k] = l[k] := by
  simp only [mkdN]
  exact List.getElem_append_left h
theorem mkdN_ge (l : List Nd) (k : Nat) (h : l.length ≤ k) (h' : k < (mkdN l).length) : (mkdN l)[k] = (-123456, 0, 0) := by
  simp only [mkdN]
  rw [List.getElem_append_right h, List.getElem_replicate]
theorem set6 (M : Array Value) (i : Nat) (a b c a' b' c' : Value) : ((((((M.setIfInBounds i a).setIfInBounds (i + 1) b).setIfInBounds (i + 2) c).setIfInBounds i a').setIfInBounds (i + 1) b').setIfInBounds (i + 2) c') = ((M.setIfInBounds i a').setIfInBounds (i + 1) b').setIfInBounds (i + 2) c' := by
  apply Array.ext_getElem?
  intro j
  simp only [Array.getElem?_setIfInBounds, Array.size_setIfInBounds]
  by_cases h2 : i + 2 = j
  · simp [h2]
  · by_cases h1 : i + 1 = j
    · simp [h1, h2]
    · by_cases h0 : i = j
      · simp [h0]
      · simp [h0, h1, h2]
theorem set3 (M : Array Value) (i : Nat) (a b c : Value) (h : i + 2 < M.size) : (((M.setIfInBounds i a).setIfInBounds (i + 1) b).setIfInBounds (i + 2) c)[i]? = some a ∧ (((M.setIfInBounds i a).setIfInBounds (i + 1) b).setIfInBounds (i + 2) c)[i + 1]? = some b ∧ (((M.setIfInBounds i a).setIfInBounds (i + 1) b).setIfInBounds (i + 2) c)[i + 2]? = some c := by
  simp only [Array.getElem?_setIfInBounds, Array.size_setIfInBounds]
  refine ⟨?_, ?_, ?_⟩
  · rw [if_neg (by omega), if_neg (by omega), if_pos trivial, if_pos (by omega)]
  · rw [if_neg (by omega), if_pos trivial, if_pos (by omega)]
  · rw [if_pos trivial, if_pos (by omega)]
theorem mkN_size (L : List Nd) (k : Nat) (h : k ≤ L.length) : (mkN L k).size = 3 * L.length := by
  simp only [mkN, List.size_toArray, NC_length, List.length_append, List.length_take, List.length_replicate]
  omega
section
variable {P : Program} {ops : Array Oper} {rest : List Oper} {op : Oper} {a : Act} {Q : Exit → Act → World → Prop}
/-- three cells of a known block, stored at one time -/
theorem store3 {w : World} (hgd : op.guard = none) (ty : TypeId) (x y : Operand) (ho : op.op = .store ty x y)
    (g i : Nat) (v0 v1 v2 : Value) (hx : a.eval x = .pointer (some ⟨g, i, none⟩)) (hy : a.eval y = .agg #[v0, v1, v2])
    (hi : (P.info? ty).map (·.size) = some 3) (h0 : v0.oneCell' = true) (h1 : v1.oneCell' = true) (h2 : v2.oneCell' = true) (arr : Array Value) (t : TypeId) (hB : Blk w g arr t) (hs : i + 2 < arr.size)
    (h : ∀ w1, Blk w1 g (((arr.setIfInBounds i v0).setIfInBounds (i + 1) v1).setIfInBounds (i + 2) v2) t → (∀ (w0 : World) (B : Nat), Below B w0 w → B ≤ g → Below B w0 w1) → wpList P ops Q rest (a.put op.dst undef) w1) : wpList P ops Q (op :: rest) a w := by
  have hth : w.there g i 3 := fun j hj => ⟨by rw [hB.cell, Array.getElem?_eq_getElem (by omega)]; rfl, hB.frozen _⟩
  refine wpList_store_mid hgd ty x y ho g i #[v0, v1, v2] hx hy hth hi (by simp [h0, h1, h2]) ?_
  exact h _ (((hB.set i v0).set (i + 1) v1).set (i + 2) v2) (fun w0 B hb hle => ((hb.setCell (p := ⟨g, i, none⟩) (by simpa using hle) v0).setCell (p := ⟨g, i + 1, none⟩) (by simpa using hle) v1).setCell (p := ⟨g, i + 2, none⟩) (by simpa using hle) v2)
end
theorem size50 : (Try.prog.info? 50).map (·.size) = some 3 := by kernel_rfl
theorem info50 : (Try.prog.info? 50).map (fun i => (i.zero, i.size, i.bytes)) = some (some (.agg #[.int .i64 0, .int .i64 0, .int .i64 0]), 3, 24) := by kernel_rfl

set_option maxRecDepth 100000 in
set_option maxHeartbeats 1000000 in
/-- markedNodes -/
theorem markedNodes_any (A : Option Addr) (n c : Nat) (l : List Nd) (w : World) (hl : l.length = n) (hm : n * 24 ≤ 140737488351232) (hx : Rd w A (NC l)) :
    Calls Try.prog 10 #[.slice A n c] w fun e w' => ∃ g, e = .returned (.slice (some ⟨g, 0, none⟩) n (n + 64)) ∧ Rd w' (some ⟨g, 0, none⟩) (NC (mkdN l)) ∧ w.heap.size ≤ g ∧ Below w.heap.size w w' := by
  obtain ⟨i0, hi, hz0, hz1, hz2⟩ := info_parts info50
  have hmk : ∀ u : World, (Instr.makeSlice 22 (.int .i64 ((n : Int) + 64)) (.int .i64 ((n : Int) + 64))).run Try.prog u = .ok (.slice (some ⟨u.heap.size, 0, none⟩) (n + 64) (n + 64)) (u.alloc (.cells (madeCells #[.int .i64 0, .int .i64 0, .int .i64 0] ((n + 64) * 3)) 50)) := fun u => by
    have h := run_make (P := Try.prog) u 22 50 i0 (.agg #[.int .i64 0, .int .i64 0, .int .i64 0]) Try.underlying22 hi hz0 .i64 .i64 ((n : Int) + 64) ((n : Int) + 64) (by omega) (by omega) (by rw [hz2]; omega) (by omega)
    have e : ((n : Int) + 64).toNat = n + 64 := by omega
    rw [e, hz1] at h
    exact h
  have hwr : IntKind.i64.wrap ((n : Int) + 64) = (n : Int) + 64 := IntWalk.i64_in _ (by omega)
  go_enter Try.func10, Try.ntmps10
  go_wp2
  have s0 : Blk (w.alloc (.cells (madeCells #[.int .i64 0, .int .i64 0, .int .i64 0] ((n + 64) * 3)) 50)) w.heap.size (mkN (mkdN l) 0) 50 := by
    rw [mkN_zero, mkdN_length, hl]
    exact Blk.new w _ 50
  have hb0 : Below w.heap.size w (w.alloc (.cells (madeCells #[.int .i64 0, .int .i64 0, .int .i64 0] ((n + 64) * 3)) 50)) := by go_grown
  clear hmk
  generalize w.alloc (.cells (madeCells #[.int .i64 0, .int .i64 0, .int .i64 0] ((n + 64) * 3)) 50) = w1 at *
  go_loopw [4] (fun i wr => ∃ k : Nat, k ≤ n + 64 ∧ i = .int .i64 (k : Int) ∧ Blk wr w.heap.size (mkN (mkdN l) k) 50 ∧ Below w.heap.size w wr) (fun i _ => n + 64 - (intOf i).toNat)
  case atStart => exact ⟨0, by omega, rfl, s0, hb0⟩
  case round =>
    clear s0 hb0
    obtain ⟨k, hk, rfl, p0, hb⟩ := hrel
    by_cases hlt : k < n + 64
    · have ea : (⟨w.heap.size, 0, none⟩ : Addr).add (k * 3) = ⟨w.heap.size, k * 3, none⟩ := by simpa using addr_add w.heap.size 0 (k * 3)
      have ea1 := addr_add w.heap.size (k * 3) 1
      have ea2 := addr_add w.heap.size (k * 3) 2
      have S1 := Lib.hid (mkN_set (mkdN l) k (by rw [mkdN_length]; omega))
      have hsz : k * 3 + 2 < (mkN (mkdN l) k).size := by rw [mkN_size _ _ (by rw [mkdN_length]; omega), mkdN_length]; omega
      by_cases hn : k < n
      · have hv : (mkdN l)[k]'(by rw [mkdN_length]; omega) = (par l k, tk l k, dep l k) := by rw [mkdN_lt l k (by omega), nd_get l k (by omega)]
        have S2 := Lib.hid (S1.out _ hv)
        have HX := Lib.hid (fun (u : World) (h : Below w.heap.size w u) => (hx.below h).nd k (by omega))
        clear S1 hv hx
        generalize par l k = x at *
        generalize tk l k = y at *
        generalize dep l k = z at *
        go_wp2_with (first
          | (refine store3 rfl 50 _ _ rfl w.heap.size (k * 3) (.int .i64 (-123456)) (.int .i64 0) (.int .i64 0) rfl rfl size50 rfl rfl rfl _ 50 p0 hsz ?_; intro w2 q1 bel; have hb1 := bel _ _ hb (Nat.le_refl _); obtain ⟨b, o, hA, u0, u1, u2⟩ := HX.out _ hb1; subst hA; have eb := addr_add b o (k * 3); have eb1 := addr_add b (o + k * 3) 1; have eb2 := addr_add b (o + k * 3) 2; clear bel)
          | (refine store3 rfl 50 _ _ rfl w.heap.size (k * 3) (.int .i64 x) (.int .i64 y) (.int .i64 z) rfl rfl size50 rfl rfl rfl _ 50 q1 (by simpa using hsz) ?_; intro w3 q2 bel; have hb2 := bel _ _ hb1 (Nat.le_refl _); clear bel))
        rw [set6, Nat.mul_comm, S2.out] at q2
        go_roundw
        case rel => exact ⟨k + 1, by omega, by go_num, q2, hb2⟩
        case measure => simp [intOf]; omega
      · have hv : (mkdN l)[k]'(by rw [mkdN_length]; omega) = (-123456, 0, 0) := mkdN_ge l k (by omega) _
        have S2 := Lib.hid (S1.out _ hv)
        clear S1 hv
        go_wp2_with (refine store3 rfl 50 _ _ rfl w.heap.size (k * 3) (.int .i64 (-123456)) (.int .i64 0) (.int .i64 0) rfl rfl size50 rfl rfl rfl _ 50 p0 hsz ?_; intro w2 q1 bel; have hb1 := bel _ _ hb (Nat.le_refl _); clear bel)
        rw [Nat.mul_comm, S2.out] at q1
        go_roundw
        case rel => exact ⟨k + 1, by omega, by go_num, q1, hb1⟩
        case measure => simp [intOf]; omega
    · obtain rfl : k = n + 64 := by omega
      rw [show n + 64 = (mkdN l).length by rw [mkdN_length]; omega, mkN_full] at p0
      go_wp2
      go_returns
      exact ⟨w.heap.size, rfl, .inr ⟨w.heap.size, 0, rfl, fun i hi => by rw [Nat.zero_add, p0.cell, List.getElem?_toArray]⟩, Nat.le_refl _, hb⟩
end Go.Proofs.Ytlcgkdhcdldlfaa
