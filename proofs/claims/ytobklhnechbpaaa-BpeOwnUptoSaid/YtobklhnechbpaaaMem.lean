import Derived.Test.YtobklhnechbpaaaRows
import Derived.WalkKit
import Derived.Handy
import Derived.Outline
import Derived.Lib.Hide
import Derived.BigQuiet
import Derived.Deep.QuietTactic
import Derived.Deep.RegionHeld3
import Derived.Maps.AppendAt
import Derived.Deep.AppendLies
namespace Go.Proofs.Ytobklhnechbpaaa
open Go.RowKit

theorem bthen {w w1 w2 : World} (h : Below w.heap.size w w1) (k : Below w1.heap.size w1 w2) : Below w.heap.size w w2 := h.trans (k.mono h.size)
theorem bdraw {w w1 : World} (h : Below w.heap.size w w1) (n : Nat) : Below w.heap.size w (w1.drewN n) := ⟨h.os, h.tape, h.output, h.size, h.block⟩
theorem ret_bool {a b : Bool} (h : a = b) : Ending.returned (.bool a) = .returned (.bool b) := by rw [h]
theorem addr_add (b o n : Nat) : (⟨b, o, none⟩ : Addr).add n = ⟨b, o + n, none⟩ := by
  unfold Addr.add
  split <;> simp_all

/-- a slice's cells, as they are read -/
def Rd (w : World) (A : Option Addr) (vs : List Value) : Prop := vs = [] ∨ ∃ b o, A = some ⟨b, o, none⟩ ∧ ∀ i, i < vs.length → w.cell? ⟨b, o + i, none⟩ = vs[i]?
theorem Rd.at {w : World} {A : Option Addr} {vs : List Value} (h : Rd w A vs) (i : Nat) (hi : i < vs.length) : ∃ b o, A = some ⟨b, o, none⟩ ∧ w.cell? ⟨b, o + i, none⟩ = some vs[i] := by
  rcases h with rfl | ⟨b, o, e, hc⟩
  · simp at hi
  · exact ⟨b, o, e, by rw [hc i hi, List.getElem?_eq_getElem hi]⟩
theorem Rd.below {w w' : World} {A : Option Addr} {vs : List Value} (h : Rd w A vs) (hb : Below w.heap.size w w') : Rd w' A vs := by
  rcases h with rfl | ⟨b, o, e, hc⟩
  · exact .inl rfl
  · refine .inr ⟨b, o, e, fun i hi => ?_⟩
    have h1 := hc i hi
    rw [List.getElem?_eq_getElem hi] at h1
    rw [List.getElem?_eq_getElem hi, ← h1]
    exact hb.cell (p := ⟨b, o + i, none⟩) (World.block_lt_of_cell? w _ h1)
/-- bytes, numbers, pairs of numbers as cells -/
def B8 (xs : List Int) : List Value := xs.map (Value.int .u8)
def I64 (xs : List Int) : List Value := xs.map (Value.int .i64)
def PR (ps : List (Int × Int)) : List Value := ps.flatMap fun p => [.int .i64 p.1, .int .i64 p.2]
theorem B8_length (xs : List Int) : (B8 xs).length = xs.length := by simp [B8]
theorem I64_length (xs : List Int) : (I64 xs).length = xs.length := by simp [I64]
theorem Rd.b8 {w : World} {A : Option Addr} {xs : List Int} (h : Rd w A (B8 xs)) (i : Nat) (hi : i < xs.length) : ∃ b o, A = some ⟨b, o, none⟩ ∧ w.cell? ⟨b, o + i, none⟩ = some (.int .u8 xs[i]) := by
  obtain ⟨b, o, e, hc⟩ := h.at i (by rw [B8_length]; exact hi)
  exact ⟨b, o, e, by rw [hc]; simp [B8]⟩
theorem Rd.i64 {w : World} {A : Option Addr} {xs : List Int} (h : Rd w A (I64 xs)) (i : Nat) (hi : i < xs.length) : ∃ b o, A = some ⟨b, o, none⟩ ∧ w.cell? ⟨b, o + i, none⟩ = some (.int .i64 xs[i]) := by
  obtain ⟨b, o, e, hc⟩ := h.at i (by rw [I64_length]; exact hi)
  exact ⟨b, o, e, by rw [hc]; simp [I64]⟩


section
variable {P : Program} {ops : Array Oper} {rest : List Oper} {o : Oper} {a : Act} {Q : Exit → Act → World → Prop}
/-- append(v, y) onto a slice of the call's own, y one element of 'size' cells, boxed right ahead. -/
theorem app {w0 W : World} (base : Nat) (hgd : o.guard = none) (s x : Operand) (t e : TypeId) (z : Value) (size bytes : Nat)
    (ho : o.op = .call { callee := .builtin .append, args := #[s, x], argTypes := #[t, t] })
    (ht : P.underlying t = some (.slice e)) (hinfo : (P.info? e).map (fun i => (i.zero, i.size, i.bytes)) = some (some z, size, bytes)) (hzs : z.cells.size = size) (hsz : 0 < size) (hb0 : 0 < bytes)
    (v : Value) (n : Nat) (xs : List Value) (cs : Array Value) (hs : a.eval s = v) (hx : a.eval x = .slice (some ⟨W.heap.size, 0, none⟩) 1 1) (hl : cs.size = size) (h1 : ∀ u ∈ cs.toList, u.oneCell' = true)
    (HO : W.ownsRow base e size v n xs) (HB : Below base w0 W) (hbase : base ≤ W.heap.size) (hle : (n + 1) * bytes ≤ 140737488355328)
    (h : ∀ g cap w1, w1.ownsRow base e size (.slice (some ⟨g, 0, none⟩) (n + 1) cap) (n + 1) (xs ++ cs.toList) → Below base w0 w1 → W.grownBy w1 v.ownBlock → (some g = v.ownBlock ∨ g = W.heap.size + 1) → wpList P ops Q rest (a.put o.dst (.slice (some ⟨g, 0, none⟩) (n + 1) cap)) w1) :
    wpList P ops Q (o :: rest) a (W.alloc (.cells cs e)) := by
  obtain ⟨i0, hi, hzz⟩ := Option.map_eq_some_iff.1 hinfo
  simp only [Prod.mk.injEq] at hzz
  obtain ⟨hz0, hz1, hz2⟩ := hzz
  have hlen : n + 1 ≤ 140737488355328 := Nat.le_trans (Nat.le_mul_of_pos_right _ hb0) hle
  refine wpList_append_own_at (W.alloc (.cells cs e)) hgd s x t ho base e i0 z size bytes ht hi hz0 hz1 hz2 hzs hsz v n xs hs (HO.alloc _) ⟨W.heap.size, 0, none⟩ 1 1 cs.toList hx (by simpa using hl)
    (World.news_of_block (cs := cs) (t := e) (fr := (0, 0)) (MapKept.heap_alloc W _).1) h1 (by simp only [maxLen]; omega) hle (by simp; omega) ?_
  intro v1 w1 hown hg _ hat
  rcases hown.2 with ⟨_, h0⟩ | ⟨g, cap, cur, rfl, _⟩
  · omega
  · refine h g cap w1 hown ((HB.alloc hbase _).grown hg (by simp; omega) (fun k hk => ?_)) (World.grownBy.trans (World.grownBy_alloc W _ _) hg) ?_
    · rcases HO.2 with ⟨rfl, _⟩ | ⟨g', cap', cur', rfl, hb, _⟩
      · simp [Value.ownBlock] at hk
      · have : g' = k := by simpa [Value.ownBlock] using hk
        omega
    · rcases hat with hat | hat
      · exact .inl hat
      · right
        simpa [Value.ownBlock] using hat
end
theorem own_rd {w : World} {base : Nat} {e : TypeId} {size n : Nat} {v : Value} {xs : List Value} (h : w.ownsRow base e size v n xs) : ∃ A c, v = .slice A n c ∧ n ≤ c ∧ Rd w A xs := by
  rcases h.2 with ⟨rfl, rfl⟩ | ⟨g, cap, cur, rfl, _, hh, h1, _, hc, ht⟩
  · refine ⟨none, 0, rfl, Nat.le_refl _, .inl ?_⟩
    have := h.1
    simpa using this
  · refine ⟨_, cap, rfl, h1, .inr ⟨g, 0, rfl, fun i hi => ?_⟩⟩
    rw [Nat.zero_add]
    have hl := h.1
    simp only [World.cell?, hh]
    rw [← ht, List.getElem?_take_of_lt (by omega)]
    simp
theorem info5 : (Try.prog.info? 5).map (fun i => (i.zero, i.size, i.bytes)) = some (some (.int .u8 0), 1, 1) := by kernel_rfl
theorem info3 : (Try.prog.info? 3).map (fun i => (i.zero, i.size, i.bytes)) = some (some (.int .i64 0), 1, 8) := by kernel_rfl
theorem info51 : (Try.prog.info? 51).map (fun i => (i.zero, i.size, i.bytes)) = some (some (.agg #[.int .i64 0, .int .i64 0]), 2, 16) := by kernel_rfl
theorem B8_snoc (xs : List Int) (x : Int) : B8 xs ++ [Value.int .u8 x] = B8 (xs ++ [x]) := by simp [B8]
theorem I64_snoc (xs : List Int) (x : Int) : I64 xs ++ [Value.int .i64 x] = I64 (xs ++ [x]) := by simp [I64]
theorem PR_snoc (xs : List (Int × Int)) (x : Int × Int) : PR xs ++ [Value.int .i64 x.1, Value.int .i64 x.2] = PR (xs ++ [x]) := by simp [PR]

set_option maxHeartbeats 400000 in
/-- EqBytes -/
theorem eqBytes_any (A A' : Option Addr) (n n' c c' : Nat) (xs ys : List Int) (hn : xs.length = n) (hn' : ys.length = n') (hm : n ≤ 140737488355328) (w : World) (hx : Rd w A (B8 xs)) (hy : Rd w A' (B8 ys)) :
    Calls Try.prog 19 #[.slice A n c, .slice A' n' c'] w fun e w' => e = .returned (.bool (decide (xs = ys))) ∧ Below w.heap.size w w' := by
  by_cases hnn : n = n'
  · subst hnn
    go_enter Try.func19, Try.ntmps19
    go_wp2
    go_loopw [5] (fun i wr => ∃ k : Nat, k ≤ n ∧ i = .int .i64 k ∧ xs.take k = ys.take k ∧ Below w.heap.size w wr) (fun i _ => n - (intOf i).toNat)
    case atStart => exact ⟨0, by omega, rfl, rfl, Below.refl _ _⟩
    case round =>
      obtain ⟨k, hk, rfl, he, hb⟩ := hrel
      by_cases hlt : k < n
      · obtain ⟨b, o, rfl, h1⟩ := (hx.below hb).b8 k (by omega)
        obtain ⟨b', o', rfl, h2⟩ := (hy.below hb).b8 k (by omega)
        have ea := addr_add b o k
        have ea' := addr_add b' o' k
        have HE := Lib.hid he
        have T1 := Lib.hid (List.take_succ_eq_append_getElem (show k < xs.length by omega))
        have T2 := Lib.hid (List.take_succ_eq_append_getElem (show k < ys.length by omega))
        clear he
        generalize hxv : xs[k]'(by omega) = x at *
        generalize hyv : ys[k]'(by omega) = y at *
        have XV := Lib.hid hxv
        have YV := Lib.hid hyv
        clear hxv hyv
        by_cases hv : x = y
        · subst hv
          go_wp2
          go_quiet (fail)
          all_goals go_wp2
          go_roundw
          case rel => exact ⟨k + 1, by omega, by go_num, by rw [T1.out, T2.out, HE.out], bdraw hb _⟩
          case measure => simp [intOf]; omega
        · have hne : (x != y) = true := by simpa using hv
          have hd : decide (xs = ys) = false := by
            simp only [decide_eq_false_iff_not]
            rintro rfl
            exact hv (XV.out.symm.trans YV.out)
          have HD := Lib.hid hd
          clear hd hv
          go_wp2
          go_quiet (fail)
          all_goals go_wp2
          go_returns
          exact ⟨by rw [HD.out]; rfl, bdraw hb _⟩
      · have hd : decide (xs = ys) = true := by
          simp only [decide_eq_true_eq]
          rw [List.take_of_length_le (by omega), List.take_of_length_le (by omega)] at he
          exact he
        have HD := Lib.hid hd
        clear hd he
        go_wp2
        go_returns
        exact ⟨by rw [HD.out]; rfl, hb⟩
  · have hd : decide (xs = ys) = false := by
      simp only [decide_eq_false_iff_not]
      rintro rfl
      omega
    have HD := Lib.hid hd
    clear hd
    have hne : ((n : Int) != (n' : Int)) = true := by simp; omega
    go_enter Try.func19, Try.ntmps19
    go_wp2
    go_returns
    exact ⟨by rw [HD.out]; rfl, Below.refl _ _⟩

set_option maxHeartbeats 400000 in
/-- EqInts -/
theorem eqInts_any (A A' : Option Addr) (n n' c c' : Nat) (xs ys : List Int) (hn : xs.length = n) (hn' : ys.length = n') (hm : n ≤ 140737488355328) (w : World) (hx : Rd w A (I64 xs)) (hy : Rd w A' (I64 ys)) :
    Calls Try.prog 24 #[.slice A n c, .slice A' n' c'] w fun e w' => e = .returned (.bool (decide (xs = ys))) ∧ Below w.heap.size w w' := by
  by_cases hnn : n = n'
  · subst hnn
    go_enter Try.func24, Try.ntmps24
    go_wp2
    go_loopw [5] (fun i wr => ∃ k : Nat, k ≤ n ∧ i = .int .i64 k ∧ xs.take k = ys.take k ∧ Below w.heap.size w wr) (fun i _ => n - (intOf i).toNat)
    case atStart => exact ⟨0, by omega, rfl, rfl, Below.refl _ _⟩
    case round =>
      obtain ⟨k, hk, rfl, he, hb⟩ := hrel
      by_cases hlt : k < n
      · obtain ⟨b, o, rfl, h1⟩ := (hx.below hb).i64 k (by omega)
        obtain ⟨b', o', rfl, h2⟩ := (hy.below hb).i64 k (by omega)
        have ea := addr_add b o k
        have ea' := addr_add b' o' k
        have HE := Lib.hid he
        have T1 := Lib.hid (List.take_succ_eq_append_getElem (show k < xs.length by omega))
        have T2 := Lib.hid (List.take_succ_eq_append_getElem (show k < ys.length by omega))
        clear he
        generalize hxv : xs[k]'(by omega) = x at *
        generalize hyv : ys[k]'(by omega) = y at *
        have XV := Lib.hid hxv
        have YV := Lib.hid hyv
        clear hxv hyv
        by_cases hv : x = y
        · subst hv
          go_wp2
          go_quiet (fail)
          all_goals go_wp2
          go_roundw
          case rel => exact ⟨k + 1, by omega, by go_num, by rw [T1.out, T2.out, HE.out], bdraw hb _⟩
          case measure => simp [intOf]; omega
        · have hne : (x != y) = true := by simpa using hv
          have hd : decide (xs = ys) = false := by
            simp only [decide_eq_false_iff_not]
            rintro rfl
            exact hv (XV.out.symm.trans YV.out)
          have HD := Lib.hid hd
          clear hd hv
          go_wp2
          go_quiet (fail)
          all_goals go_wp2
          go_returns
          exact ⟨by rw [HD.out]; rfl, bdraw hb _⟩
      · have hd : decide (xs = ys) = true := by
          simp only [decide_eq_true_eq]
          rw [List.take_of_length_le (by omega), List.take_of_length_le (by omega)] at he
          exact he
        have HD := Lib.hid hd
        clear hd he
        go_wp2
        go_returns
        exact ⟨by rw [HD.out]; rfl, hb⟩
  · have hd : decide (xs = ys) = false := by
      simp only [decide_eq_false_iff_not]
      rintro rfl
      omega
    have HD := Lib.hid hd
    clear hd
    have hne : ((n : Int) != (n' : Int)) = true := by simp; omega
    go_enter Try.func24, Try.ntmps24
    go_wp2
    go_returns
    exact ⟨by rw [HD.out]; rfl, Below.refl _ _⟩

set_option maxHeartbeats 400000 in
/-- CopyBytes -/
theorem copyBytes_any (A : Option Addr) (n c : Nat) (xs : List Int) (hn : xs.length = n) (hm : n * 1 ≤ 140737488355328) (w : World) (hx : Rd w A (B8 xs)) :
    Calls Try.prog 25 #[.slice A n c] w fun e w' => ∃ v, e = .returned v ∧ w'.ownsRow w.heap.size 5 1 v n (B8 xs) ∧ Below w.heap.size w w' := by
  go_enter Try.func25, Try.ntmps25
  go_wp2
  go_loopw [3, 4] (fun v i wr => ∃ k : Nat, k ≤ n ∧ i = .int .i64 k ∧ wr.ownsRow w.heap.size 5 1 v k (B8 (xs.take k)) ∧ Below w.heap.size w wr) (fun _ i _ => n - (intOf i).toNat)
  case atStart => exact ⟨0, by omega, rfl, World.ownsRow_nil _ _ _ _, Below.refl _ _⟩
  case round =>
    obtain ⟨k, hk, rfl, ho, hb⟩ := hrel
    by_cases hlt : k < n
    · obtain ⟨b, o, rfl, h1⟩ := (hx.below hb).b8 k (by omega)
      have ea := addr_add b o k
      have T1 := Lib.hid (List.take_succ_eq_append_getElem (show k < xs.length by omega))
      generalize hxv : xs[k]'(by omega) = x at *
      clear hxv
      go_wp2_with (at_builtin; refine app _ rfl _ _ 22 5 (.int .u8 0) 1 1 rfl Try.underlying22 info5 rfl (by decide) (by decide) _ k _ _ rfl rfl rfl (by simp [Value.oneCell']) ho hb hb.size (by omega) ?_; intro g cap w1 ho1 hb1 _ _; rw [B8_snoc, ← T1.out] at ho1)
      go_roundw
      case rel => exact ⟨k + 1, by omega, by go_num, ho1, hb1⟩
      case measure => simp [intOf]; omega
    · have hkn : xs.take k = xs := List.take_of_length_le (by omega)
      rw [hkn] at ho
      obtain rfl : k = n := by omega
      go_wp2
      go_returns
      exact ⟨_, rfl, ho, hb⟩

set_option maxHeartbeats 400000 in
/-- CopyInts -/
theorem copyInts_any (A : Option Addr) (n c : Nat) (xs : List Int) (hn : xs.length = n) (hm : n * 8 ≤ 140737488355328) (w : World) (hx : Rd w A (I64 xs)) :
    Calls Try.prog 21 #[.slice A n c] w fun e w' => ∃ v, e = .returned v ∧ w'.ownsRow w.heap.size 3 1 v n (I64 xs) ∧ Below w.heap.size w w' := by
  go_enter Try.func21, Try.ntmps21
  go_wp2
  go_loopw [3, 4] (fun v i wr => ∃ k : Nat, k ≤ n ∧ i = .int .i64 k ∧ wr.ownsRow w.heap.size 3 1 v k (I64 (xs.take k)) ∧ Below w.heap.size w wr) (fun _ i _ => n - (intOf i).toNat)
  case atStart => exact ⟨0, by omega, rfl, World.ownsRow_nil _ _ _ _, Below.refl _ _⟩
  case round =>
    obtain ⟨k, hk, rfl, ho, hb⟩ := hrel
    by_cases hlt : k < n
    · obtain ⟨b, o, rfl, h1⟩ := (hx.below hb).i64 k (by omega)
      have ea := addr_add b o k
      have T1 := Lib.hid (List.take_succ_eq_append_getElem (show k < xs.length by omega))
      generalize hxv : xs[k]'(by omega) = x at *
      clear hxv
      go_wp2_with (at_builtin; refine app _ rfl _ _ 39 3 (.int .i64 0) 1 8 rfl Try.underlying39 info3 rfl (by decide) (by decide) _ k _ _ rfl rfl rfl (by simp [Value.oneCell']) ho hb hb.size (by omega) ?_; intro g cap w1 ho1 hb1 _ _; rw [I64_snoc, ← T1.out] at ho1)
      go_roundw
      case rel => exact ⟨k + 1, by omega, by go_num, ho1, hb1⟩
      case measure => simp [intOf]; omega
    · have hkn : xs.take k = xs := List.take_of_length_le (by omega)
      rw [hkn] at ho
      obtain rfl : k = n := by omega
      go_wp2
      go_returns
      exact ⟨_, rfl, ho, hb⟩

end Go.Proofs.Ytobklhnechbpaaa
