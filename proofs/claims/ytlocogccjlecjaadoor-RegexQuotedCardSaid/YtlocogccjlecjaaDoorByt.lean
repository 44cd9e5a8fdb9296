import Derived.Test.YtlocogccjlecjaaDoorMem
/- EqBytes, CopyBytes. -/
namespace Go.Proofs.YtlocogccjlecjaaDoor
open Go.RowKit
theorem B8_snoc (l : List Int) (x : Int) : B8 l ++ (#[Value.int .u8 x] : Array Value).toList = B8 (l ++ [x]) := by simp [B8]
theorem info5 : (Tryd.prog.info? 5).map (fun i => (i.zero, i.size, i.bytes)) = some (some (.int .u8 0), 1, 1) := by kernel_rfl
set_option maxRecDepth 100000 in
set_option maxHeartbeats 1000000 in
/-- EqBytes -/
theorem eqBytes_any (A A' : Option Addr) (n n' c c' : Nat) (xs ys : List Int) (hn : xs.length = n) (hn' : ys.length = n') (hm : n ≤ 140737488355328) (w : World) (hx : Rd w A (B8 xs)) (hy : Rd w A' (B8 ys)) :
    Calls Tryd.prog 17 #[.slice A n c, .slice A' n' c'] w fun e w' => e = .returned (.bool (decide (xs = ys))) ∧ Below w.heap.size w w' := by
  by_cases hnn : n = n'
  · subst hnn
    go_enter Tryd.func17, Tryd.ntmps17
    go_wp2
    go_loopw [5] (fun i wr => ∃ k : Nat, k ≤ n ∧ i = .int .i64 k ∧ xs.take k = ys.take k ∧ Below w.heap.size w wr) (fun i _ => n - (intOf i).toNat)
    case atStart => exact ⟨0, by omega, rfl, rfl, Below.refl _ _⟩
    case round =>
      obtain ⟨k, hk, rfl, he, hb⟩ := hrel
      by_cases hlt : k < n
      · obtain ⟨b, o, rfl, h1⟩ := (hx.below hb).b8 k (by omega)
        obtain ⟨b', o', rfl, h2⟩ := (hy.below hb).b8 k (by omega)
        have ea := addr_add b o k
        have ea' := addr_add b' o' k
        have HE := Lib.hid he
        have T1 := Lib.hid (List.take_succ_eq_append_getElem (show k < xs.length by omega))
        have T2 := Lib.hid (List.take_succ_eq_append_getElem (show k < ys.length by omega))
        clear he
        generalize hxv : xs[k]'(by omega) = x at *
        generalize hyv : ys[k]'(by omega) = y at *
        have XV := Lib.hid hxv
        have YV := Lib.hid hyv
        clear hxv hyv
        by_cases hv : x = y
        · subst hv
          go_wp2
          go_quiet (fail)
          all_goals go_wp2
          go_roundw
          case rel => exact ⟨k + 1, by omega, by go_num, by rw [T1.out, T2.out, HE.out], bdraw hb _⟩
          case measure => simp [intOf]; omega
        · have hne : (x != y) = true := by simpa using hv
          have hd : decide (xs = ys) = false := by
            simp only [decide_eq_false_iff_not]
            rintro rfl
            exact hv (XV.out.symm.trans YV.out)
          have HD := Lib.hid hd
          clear hd hv
          go_wp2
          go_quiet (fail)
          all_goals go_wp2
          go_returns
          exact ⟨by rw [HD.out]; rfl, bdraw hb _⟩
      · have hd : decide (xs = ys) = true := by
          simp only [decide_eq_true_eq]
          rw [List.take_of_length_le (by omega), List.take_of_length_le (by omega)] at he
          exact he
        have HD := Lib.hid hd
        clear hd he
        go_wp2
        go_returns
        exact ⟨by rw [HD.out]; rfl, hb⟩
  · have hd : decide (xs = ys) = false := by
      simp only [decide_eq_false_iff_not]
      rintro rfl
      omega
    have HD := Lib.hid hd
    clear hd
    have hne : ((n : Int) != (n' : Int)) = true := by simp; omega
    go_enter Tryd.func17, Tryd.ntmps17
    go_wp2
    go_returns
    exact ⟨by rw [HD.out]; rfl, Below.refl _ _⟩
set_option maxRecDepth 100000 in
set_option maxHeartbeats 1000000 in
/-- CopyBytes -/
theorem copyBytes_any (A : Option Addr) (n c : Nat) (xs : List Int) (hn : xs.length = n) (hm : n * 1 ≤ 140737488355328) (w : World) (hx : Rd w A (B8 xs)) :
    Calls Tryd.prog 16 #[.slice A n c] w fun e w' => ∃ v, e = .returned v ∧ w'.ownsRow w.heap.size 5 1 v n (B8 xs) ∧ Below w.heap.size w w' := by
  go_enter Tryd.func16, Tryd.ntmps16
  go_wp2
  go_loopw [3, 4] (fun v i wr => ∃ k : Nat, k ≤ n ∧ i = .int .i64 k ∧ wr.ownsRow w.heap.size 5 1 v k (B8 (xs.take k)) ∧ Below w.heap.size w wr) (fun _ i _ => n - (intOf i).toNat)
  case atStart => exact ⟨0, by omega, rfl, World.ownsRow_nil _ _ _ _, Below.refl _ _⟩
  case round =>
    obtain ⟨k, hk, rfl, ho, hb⟩ := hrel
    by_cases hlt : k < n
    · obtain ⟨b, o, rfl, h1⟩ := (hx.below hb).b8 k (by omega)
      have ea := addr_add b o k
      have T1 := Lib.hid (List.take_succ_eq_append_getElem (show k < xs.length by omega))
      generalize hxv : xs[k]'(by omega) = x at *
      clear hxv
      go_wp2_with (at_builtin; refine app _ rfl _ _ 37 5 (.int .u8 0) 1 1 rfl Tryd.underlying37 info5 rfl (by decide) (by decide) _ k _ _ rfl rfl rfl (by simp [Value.oneCell']) ho hb hb.size (by omega) ?_; intro g cap w1 ho1 hb1 _ _; rw [B8_snoc, ← T1.out] at ho1)
      go_roundw
      case rel => exact ⟨k + 1, by omega, by go_num, ho1, hb1⟩
      case measure => simp [intOf]; omega
    · have hkn : xs.take k = xs := List.take_of_length_le (by omega)
      rw [hkn] at ho
      obtain rfl : k = n := by omega
      go_wp2
      go_returns
      exact ⟨_, rfl, ho, hb⟩
end Go.Proofs.YtlocogccjlecjaaDoor
