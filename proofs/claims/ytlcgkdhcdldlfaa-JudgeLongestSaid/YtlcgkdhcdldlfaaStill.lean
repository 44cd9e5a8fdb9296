import Derived.Test.YtlcgkdhcdldlfaaMarks
namespace Go.Proofs.Ytlcgkdhcdldlfaa
open Go.RowKit

theorem eq50 (a b c a' b' c' : Int) (w : World) : (Op.equalIn 10000 50 (.agg #[.int .i64 a, .int .i64 b, .int .i64 c]) (.agg #[.int .i64 a', .int .i64 b', .int .i64 c'])).run Try.prog w = .ok ((a == a') && ((b == b') && (c == c'))) w := by
  have hf : (Try.prog.fieldsOf 50).toList.map (fun f => (f.name == "_", f.type, f.offset)) = [(false, 3, 0), (false, 3, 1), (false, 3, 2)] := by kernel_rfl
  rw [run_equalIn_struct (P := Try.prog) w 9999 50 _ _ (by kernel_rfl) (by kernel_rfl)]
  have p0 : ∀ (x y z : Int), (part 3 #[.int .i64 x, .int .i64 y, .int .i64 z] 0).run Try.prog w = .ok (.int .i64 x) w := fun x y z => by kernel_rfl
  have p1 : ∀ (x y z : Int), (part 3 #[.int .i64 x, .int .i64 y, .int .i64 z] 1).run Try.prog w = .ok (.int .i64 y) w := fun x y z => by kernel_rfl
  have p2 : ∀ (x y z : Int), (part 3 #[.int .i64 x, .int .i64 y, .int .i64 z] 2).run Try.prog w = .ok (.int .i64 z) w := fun x y z => by kernel_rfl
  have e3 : ∀ x y : Int, (Op.equalIn 9999 3 (.int .i64 x) (.int .i64 y)).run Try.prog w = .ok (x == y) w := fun x y => run_equalIn_int w 9998 3 .i64 .i64 x y Try.underlying3
  generalize (Try.prog.fieldsOf 50).toList = fs at hf
  obtain ⟨f0, r0, rfl, h0, hf⟩ := List.map_eq_cons_iff.1 hf
  obtain ⟨f1, r1, rfl, h1, hf⟩ := List.map_eq_cons_iff.1 hf
  obtain ⟨f2, r2, rfl, h2, hf⟩ := List.map_eq_cons_iff.1 hf
  obtain rfl := List.map_eq_nil_iff.1 hf
  simp only [Prod.mk.injEq, beq_eq_false_iff_ne] at h0 h1 h2
  obtain ⟨n0, t0, o0⟩ := h0
  obtain ⟨n1, t1, o1⟩ := h1
  obtain ⟨n2, t2, o2⟩ := h2
  simp only [Op.eqFields, n0, n1, n2, t0, t1, t2, o0, o1, o2, ne_eq, not_false_eq_true, if_true, Sem.run_bind, p0, p1, p2, e3, Result.andThen_ok, Sem.run_ite, Sem.run_pure]
  by_cases h1 : a = a' <;> by_cases h2 : b = b' <;> by_cases h3 : c = c' <;> simp [h1, h2, h3]

set_option maxRecDepth 100000 in
set_option maxHeartbeats 1000000 in
/-- EqNodes, of the same nodes -/
theorem eqNodes_any (A A' : Option Addr) (n c c' : Nat) (t : List Nd) (w : World) (hl : t.length = n) (hm : n ≤ 140737488355328) (hx : Rd w A (NC t)) (hy : Rd w A' (NC t)) :
    Calls Try.prog 25 #[.slice A n c, .slice A' n c'] w fun e w' => e = .returned (.bool true) ∧ Below w.heap.size w w' := by
  go_enter Try.func25, Try.ntmps25
  go_wp2
  go_loopw [5] (fun i wr => ∃ k : Nat, k ≤ n ∧ i = .int .i64 k ∧ Below w.heap.size w wr) (fun i _ => n - (intOf i).toNat)
  case atStart => exact ⟨0, by omega, rfl, Below.refl _ _⟩
  case round =>
    obtain ⟨k, hk, rfl, hb⟩ := hrel
    by_cases hlt : k < n
    · obtain ⟨b, o, rfl, x0, x1, x2⟩ := (hx.below hb).nd k (by omega)
      obtain ⟨b', o', rfl, y0, y1, y2⟩ := (hy.below hb).nd k (by omega)
      have ea := addr_add b o (k * 3)
      have ea' := addr_add b' o' (k * 3)
      generalize par t k = x at *
      generalize tk t k = y at *
      generalize dep t k = z at *
      have heq := eq50
      go_wp2
      go_quiet (fail)
      all_goals go_wp2
      go_roundw
      case rel => exact ⟨k + 1, by omega, by go_num, bdraw hb _⟩
      case measure => simp [intOf]; omega
    · go_wp2
      go_returns
      exact ⟨rfl, hb⟩
theorem mkd_full (l : List Int) (w : World) (g : Nat) (h : Rd w (some ⟨g, 0, none⟩) (I64 (mkd l))) : Rd w (some ⟨g, 0, none⟩) (I64 l) := by
  have e : I64 (mkd l) = I64 l ++ I64 (List.replicate 64 (-123456)) := by simp [I64, mkd]
  rw [e] at h
  exact h.left
theorem mkdN_full (l : List Nd) (w : World) (g : Nat) (h : Rd w (some ⟨g, 0, none⟩) (NC (mkdN l))) : Rd w (some ⟨g, 0, none⟩) (NC l) := by
  have e : NC (mkdN l) = NC l ++ NC (List.replicate 64 (-123456, 0, 0)) := by rw [← NC_append]; rfl
  rw [e] at h
  exact h.left

set_option maxRecDepth 100000 in
set_option maxHeartbeats 1000000 in
/-- stillNodes, of what is as it was made -/
theorem stillNodes_any (A : Option Addr) (g n c : Nat) (t : List Nd) (w : World) (hl : t.length = n) (hm : n * 24 ≤ 140737488351232) (hx : Rd w (some ⟨g, 0, none⟩) (NC (mkdN t))) (hy : Rd w A (NC t)) :
    Calls Try.prog 15 #[.slice (some ⟨g, 0, none⟩) n (n + 64), .slice A n c] w fun e w' => e = .returned (.bool true) ∧ Below w.heap.size w w' := by
  have hwr : IntKind.i64.wrap ((n : Int) + 64) = (n : Int) + 64 := IntWalk.i64_in _ (by omega)
  have htn : ((n : Int) + 64).toNat = n + 64 := by omega
  go_enter Try.func15, Try.ntmps15
  go_wp2
  go_loopw [6] (fun i wr => ∃ k : Nat, n ≤ k ∧ k ≤ n + 64 ∧ i = .int .i64 k ∧ Below w.heap.size w wr) (fun i _ => n + 64 - (intOf i).toNat)
  case atStart => exact ⟨n, by omega, by omega, rfl, Below.refl _ _⟩
  case round =>
    obtain ⟨k, hk0, hk, rfl, hb⟩ := hrel
    by_cases hlt : k < n + 64
    · obtain ⟨x0, x1, x2⟩ := (hx.below hb).ndAt k (by rw [mkdN_length]; omega)
      have hg := nd_get (mkdN t) k (by rw [mkdN_length]; omega)
      rw [mkdN_ge t k (by omega)] at hg
      simp only [Prod.mk.injEq] at hg
      obtain ⟨h1, h2, h3⟩ := hg
      rw [← h1] at x0
      rw [← h2] at x1
      rw [← h3] at x2
      rw [Nat.zero_add] at x0 x1 x2
      have ea : (⟨g, 0, none⟩ : Addr).add (k * 3) = ⟨g, k * 3, none⟩ := by simpa using addr_add g 0 (k * 3)
      have ea1 := addr_add g (k * 3) 1
      have ea2 := addr_add g (k * 3) 2
      clear h1 h2 h3
      go_wp2
      go_roundw
      case rel => exact ⟨k + 1, by omega, by omega, by go_num, hb⟩
      case measure => simp [intOf]; omega
    · go_wp2_with fail
      refine (eqNodes_any _ A n _ c t wr hl (by omega) ((mkdN_full t w g hx).below hb) (hy.below hb)).mono ?_
      rintro e w1 ⟨rfl, hb1⟩
      go_wp2
      go_returns
      exact ⟨rfl, bthen hb hb1⟩

set_option maxRecDepth 100000 in
set_option maxHeartbeats 1000000 in
/-- still, of what is as it was made -/
theorem still_any (A : Option Addr) (g n c : Nat) (t : List Int) (w : World) (hl : t.length = n) (hm : n * 8 ≤ 140737488351232) (hx : Rd w (some ⟨g, 0, none⟩) (I64 (mkd t))) (hy : Rd w A (I64 t)) :
    Calls Try.prog 16 #[.slice (some ⟨g, 0, none⟩) n (n + 64), .slice A n c] w fun e w' => e = .returned (.bool true) ∧ Below w.heap.size w w' := by
  have hwr : IntKind.i64.wrap ((n : Int) + 64) = (n : Int) + 64 := IntWalk.i64_in _ (by omega)
  have htn : ((n : Int) + 64).toNat = n + 64 := by omega
  go_enter Try.func16, Try.ntmps16
  go_wp2
  go_loopw [6] (fun i wr => ∃ k : Nat, k ≤ n + 64 ∧ i = .int .i64 k ∧ Below w.heap.size w wr) (fun i _ => n + 64 - (intOf i).toNat)
  case atStart => exact ⟨0, by omega, rfl, Below.refl _ _⟩
  case round =>
    obtain ⟨k, hk, rfl, hb⟩ := hrel
    by_cases hlt : k < n + 64
    · have x0 := (hx.below hb).i64At k (by rw [mkd_length]; omega)
      rw [Nat.zero_add] at x0
      have ea : (⟨g, 0, none⟩ : Addr).add k = ⟨g, k, none⟩ := by simpa using addr_add g 0 k
      have hkl : (k : Int) < (n : Int) + 64 := by omega
      by_cases hkn : k < n
      · obtain ⟨b, o, rfl, y0⟩ := (hy.below hb).i64 k (by omega)
        have eb := addr_add b o k
        rw [mkd_lt t k (by omega)] at x0
        generalize t[k]'(by omega) = z at *
        have d1 : decide ((k : Int) < (n : Int)) = true := decide_eq_true (by omega)
        have d1' : decide (k < n) = true := decide_eq_true (by omega)
        have d2 : decide ((n : Int) ≤ (k : Int)) = false := decide_eq_false (by omega)
        have d2' : decide (n ≤ k) = false := decide_eq_false (by omega)
        have d3 : (k : Int) < (n : Int) := by omega
        go_wp2
        go_quiet (fail)
        all_goals go_wp2
        go_roundw
        case rel => exact ⟨k + 1, by omega, by go_num, bdraw hb _⟩
        case measure => simp [intOf]; omega
      · rw [mkd_ge t k (by omega)] at x0
        have d1 : decide ((k : Int) < (n : Int)) = false := decide_eq_false (by omega)
        have d1' : decide (k < n) = false := decide_eq_false (by omega)
        have d2 : decide ((n : Int) ≤ (k : Int)) = true := decide_eq_true (by omega)
        have d2' : decide (n ≤ k) = true := decide_eq_true (by omega)
        go_wp2
        go_quiet (fail)
        all_goals go_wp2
        go_roundw
        case rel => exact ⟨k + 1, by omega, by go_num, bdraw hb _⟩
        case measure => simp [intOf]; omega
    · go_wp2
      go_returns
      exact ⟨rfl, hb⟩
end Go.Proofs.Ytlcgkdhcdldlfaa
