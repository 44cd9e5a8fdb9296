import Derived.Test.YtlcgkdhcdldlfaaOver
namespace Go.Proofs.Ytlcgkdhcdldlfaa
open Go.RowKit

/-- the first i and the last i have changed places -/
def rvL (xs : List Int) (i : Nat) : List Int := (List.range xs.length).map fun j => if j < i ∨ xs.length ≤ j + i then wv xs (xs.length - 1 - j) else wv xs j
theorem rvL_length (xs : List Int) (i : Nat) : (rvL xs i).length = xs.length := by simp [rvL]
theorem rvL_get (xs : List Int) (i j : Nat) (h : j < xs.length) : wv (rvL xs i) j = if j < i ∨ xs.length ≤ j + i then wv xs (xs.length - 1 - j) else wv xs j := by simp [wv, rvL, h]
theorem wv_ext {xs ys : List Int} (hl : xs.length = ys.length) (h : ∀ j, j < xs.length → wv xs j = wv ys j) : xs = ys := by
  apply List.ext_getElem hl
  intro j h1 h2
  rw [wv_get xs j h1, wv_get ys j h2, h j h1]
theorem wv_set (xs : List Int) (i j : Nat) (y : Int) (h : j < xs.length) : wv (xs.set i y) j = if i = j then y else wv xs j := by
  have h' : j < (xs.set i y).length := by simpa using h
  rw [← wv_get _ j h', List.getElem_set, wv_get xs j h]
theorem rvL_zero (xs : List Int) : rvL xs 0 = xs := by
  refine wv_ext (rvL_length _ _) fun j h => ?_
  rw [rvL_length] at h
  rw [rvL_get _ _ _ h, if_neg (by omega)]
theorem wv_reverse (xs : List Int) (j : Nat) (h : j < xs.length) : wv xs.reverse j = wv xs (xs.length - 1 - j) := by
  rw [← wv_get _ j (by simpa using h), List.getElem_reverse, wv_get]
theorem rvL_half (xs : List Int) (i : Nat) (h : i = xs.length / 2) : rvL xs i = xs.reverse := by
  refine wv_ext (by rw [rvL_length, List.length_reverse]) fun j hj => ?_
  rw [rvL_length] at hj
  rw [rvL_get _ _ _ hj, wv_reverse _ _ hj]
  split
  · rfl
  · congr 1
    omega
theorem rvL_step (xs : List Int) (i : Nat) (h : i < xs.length / 2) : ((rvL xs i).set i (wv xs (xs.length - 1 - i))).set (xs.length - 1 - i) (wv xs i) = rvL xs (i + 1) := by
  refine wv_ext (by simp [rvL_length]) fun j hj => ?_
  simp only [List.length_set, rvL_length] at hj
  rw [wv_set _ _ _ _ (by simp [rvL_length]; omega), wv_set _ _ _ _ (by rw [rvL_length]; exact hj), rvL_get _ _ _ hj, rvL_get _ _ _ hj]
  by_cases h1 : xs.length - 1 - i = j
  · rw [if_pos h1, if_pos (by omega)]
    congr 1
    omega
  · rw [if_neg h1]
    by_cases h2 : i = j
    · rw [if_pos h2, if_pos (by omega)]
      congr 1
      omega
    · rw [if_neg h2]
      by_cases h3 : j < i ∨ xs.length ≤ j + i
      · rw [if_pos h3, if_pos (by omega)]
      · rw [if_neg h3, if_neg (by omega)]

set_option maxRecDepth 100000 in
set_option maxHeartbeats 2000000 in
/-- turned -/
theorem turned_any (A : Option Addr) (n c base : Nat) (xs : List Int) (w : World) (hO : OwnI w base A n c xs) (hn : n * 8 ≤ 140737488355328) :
    Calls Try.prog 36 #[.slice A n c] w fun e w' => e = .returned (.tuple #[]) ∧ w.grownBy w' (blk A) ∧ OwnI w' base A n c xs.reverse := by
  have hl := hO.1
  have htd : (n : Int).tdiv 2 = ((n / 2 : Nat) : Int) := by rw [Int.tdiv_eq_ediv_of_nonneg (by omega)]; omega
  have R0 := Lib.hid (rvL_zero xs)
  have RH := Lib.hid (rvL_half xs)
  have RS := Lib.hid (rvL_step xs)
  have RG := Lib.hid (fun i j (h : j < n) => rvL_get xs i j (by omega))
  rw [hl] at RG RS RH
  go_enter Try.func36, Try.ntmps36
  go_wp2
  go_loopw [2, 3] (fun i _ wr => ∃ k : Nat, k ≤ n / 2 ∧ i = .int .i64 (k : Int) ∧ OwnI wr base A n c (rvL xs k) ∧ w.grownBy wr (blk A)) (fun i _ _ => n - (intOf i).toNat)
  case atStart => exact ⟨0, by omega, rfl, by rw [R0.out]; exact hO, grown_refl _ _⟩
  case round =>
    clear hO
    obtain ⟨k, hk, rfl, ho, hg⟩ := hrel
    by_cases hlt : k < n / 2
    · obtain ⟨g, rfl, hgb, _⟩ := ho.some (by omega)
      obtain ⟨y0, y1⟩ := ho.cell k (by omega)
      obtain ⟨z0, z1⟩ := ho.cell (n - 1 - k) (by omega)
      rw [RG.out k k (by omega), if_neg (by omega)] at y0
      rw [RG.out k (n - 1 - k) (by omega), if_neg (by omega)] at z0
      have ho1 := ho.set k (wv xs (n - 1 - k))
      obtain ⟨x0, x1⟩ := ho1.cell (n - 1 - k) (by omega)
      have ho2 := ho1.set (n - 1 - k) (wv xs k)
      rw [RS.out k hlt] at ho2
      have hg2 := grown_step (grown_step hg (grown_set wr g k (.int .i64 (wv xs (n - 1 - k)))) (.inl rfl)) (grown_set (wr.setCell ⟨g, k, none⟩ (.int .i64 (wv xs (n - 1 - k)))) g (n - 1 - k) (.int .i64 (wv xs k))) (.inl rfl)
      generalize wv ((rvL xs k).set k (wv xs (n - 1 - k))) (n - 1 - k) = old at x0
      generalize wv xs k = a at *
      generalize wv xs (n - 1 - k) = b at *
      have ea : (⟨g, 0, none⟩ : Addr).add k = ⟨g, k, none⟩ := by simpa using addr_add g 0 k
      have eb : (⟨g, 0, none⟩ : Addr).add (n - 1 - k) = ⟨g, n - 1 - k, none⟩ := by simpa using addr_add g 0 (n - 1 - k)
      have hki : (k : Int) < (n : Int) := by omega
      have hkh : (k : Int) < ((n / 2 : Nat) : Int) := by omega
      have hw1 : IntKind.i64.wrap ((n : Int) - 1) = (n : Int) - 1 := IntWalk.i64_in _ (by omega)
      have hw2 : IntKind.i64.wrap ((n : Int) - 1 - (k : Int)) = ((n - 1 - k : Nat) : Int) := by rw [IntWalk.i64_in _ (by omega)]; omega
      have hni : ((n - 1 - k : Nat) : Int) < (n : Int) := by omega
      go_wp2
      go_roundw
      case rel => exact ⟨k + 1, by omega, by go_num, ho2, hg2⟩
      case measure => simp [intOf]; omega
    · obtain rfl : k = n / 2 := by omega
      rw [RH.out _ rfl] at ho
      have hge : ¬ ((n / 2 : Nat) : Int) < ((n / 2 : Nat) : Int) := by omega
      go_wp2
      go_end0
      exact ⟨rfl, hg, ho⟩

theorem NC_snoc (t : List Nd) (p : Nd) : NC t ++ [.int .i64 p.1, .int .i64 p.2.1, .int .i64 p.2.2] = NC (t ++ [p]) := by simp [NC]
set_option maxRecDepth 100000 in
set_option maxHeartbeats 400000 in
/-- CopyNodes -/
theorem copyNodes_any (A : Option Addr) (n c : Nat) (t : List Nd) (w : World) (hl : t.length = n) (hm : n * 24 ≤ 140737488355328) (hx : Rd w A (NC t)) :
    Calls Try.prog 22 #[.slice A n c] w fun e w' => ∃ v, e = .returned v ∧ w'.ownsRow w.heap.size 50 3 v n (NC t) ∧ Below w.heap.size w w' := by
  go_enter Try.func22, Try.ntmps22
  go_wp2
  go_loopw [3, 4] (fun v i wr => ∃ k : Nat, k ≤ n ∧ i = .int .i64 k ∧ wr.ownsRow w.heap.size 50 3 v k (NC (t.take k)) ∧ Below w.heap.size w wr) (fun _ i _ => n - (intOf i).toNat)
  case atStart => exact ⟨0, by omega, rfl, World.ownsRow_nil _ _ _ _, Below.refl _ _⟩
  case round =>
    obtain ⟨k, hk, rfl, ho, hb⟩ := hrel
    obtain ⟨va, vc, rfl, _, _⟩ := own_rd ho
    by_cases hlt : k < n
    · obtain ⟨b, o, rfl, y0, y1, y2⟩ := (hx.below hb).nd k (by omega)
      have ea := addr_add b o (k * 3)
      have T1 := Lib.hid (List.take_succ_eq_append_getElem (show k < t.length by omega))
      rw [nd_get t k (by omega)] at T1
      generalize par t k = x at *
      generalize tk t k = y at *
      generalize dep t k = z at *
      go_wp2_with (at_builtin; refine app _ rfl _ _ 22 50 (.agg #[.int .i64 0, .int .i64 0, .int .i64 0]) 3 24 rfl Try.underlying22 info50 rfl (by decide) (by decide) (.slice va k vc) k (NC (t.take k)) #[.int .i64 x, .int .i64 y, .int .i64 z] rfl rfl rfl (by simp [Value.oneCell']) ho hb hb.size (by omega) ?_; intro g cap w1 ho1 hb1 _ _)
      go_roundw
      case rel =>
        refine ⟨k + 1, by omega, by go_num, ?_, hb1⟩
        rw [T1.out, ← NC_snoc]
        exact ho1
      case measure => simp [intOf]; omega
    · have hkn : t.take k = t := List.take_of_length_le (by omega)
      rw [hkn] at ho
      obtain rfl : k = n := by omega
      go_wp2
      go_returns
      exact ⟨_, rfl, ho, hb⟩
end Go.Proofs.Ytlcgkdhcdldlfaa
