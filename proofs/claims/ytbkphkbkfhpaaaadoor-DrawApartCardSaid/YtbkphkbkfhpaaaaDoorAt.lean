import Derived.Test.YtbkphkbkfhpaaaaDoorWalks
namespace Go.Proofs.YtbkphkbkfhpaaaaDoor
open Go.RowKit

def atI (s p l : Int) : Int := mixI (IntKind.u64.wrap (mixI (IntKind.u64.wrap (mixI (IntKind.u64.wrap (s + 11400714819323198485)) + IntKind.u64.wrap (11400714819323198485 * IntKind.u64.wrap p))) + IntKind.u64.wrap (11400714819323198485 * IntKind.u64.wrap l)))

set_option maxHeartbeats 400000 in
theorem at_any (s p l : Int) (w : World) (h : Table w) :
    Calls Tryd.prog 11 #[.int .u64 s, .int .i64 p, .int .i64 l] w fun e w' => e = .returned (.int .u64 (atI s p l)) ∧ Below w.heap.size w w' := by
  have i0 : ∀ w : World, (Instr.index 36 (.agg #[.int .i64 p, .int .i64 l]) (.int .i64 0)).run Tryd.prog w = .ok (.int .i64 p) w := fun _ => by kernel_rfl
  have i1 : ∀ w : World, (Instr.index 36 (.agg #[.int .i64 p, .int .i64 l]) (.int .i64 1)).run Tryd.prog w = .ok (.int .i64 l) w := fun _ => by kernel_rfl
  go_enter Tryd.func11, Tryd.ntmps11
  go_wp2_with (go_at_call 8; refine (mix_any _ (wrap_in _) _ h).mono ?_; rintro e w1 ⟨rfl, hb1⟩)
  have h1 := h.below hb1
  refine wp_loop_rounds 3 ?_
  rw [rounds_succ]
  go_wp2_with (go_at_call 8; refine (mix_any _ (wrap_in _) _ h1).mono ?_; rintro e w2 ⟨rfl, hb2⟩)
  have h2 := h1.below hb2
  rw [rounds_succ]
  go_wp2_with (go_at_call 8; refine (mix_any _ (wrap_in _) _ h2).mono ?_; rintro e w3 ⟨rfl, hb3⟩)
  rw [rounds_succ]
  go_wp2
  go_returns
  exact ⟨rfl, bthen (bthen hb1 hb2) hb3⟩

set_option maxHeartbeats 400000 in
theorem refat_any (s p l : Int) (w : World) :
    Calls Tryd.prog 12 #[.int .u64 s, .int .i64 p, .int .i64 l] w fun e w' => e = .returned (.int .u64 (atI s p l)) ∧ w = w' := by
  go_enter Tryd.func12, Tryd.ntmps12
  go_wp2_with (go_at_call 9; refine (refmix_any _ (wrap_in _) _).mono ?_; rintro e w1 ⟨rfl, rfl⟩)
  go_returns
  exact ⟨rfl, rfl⟩

set_option maxHeartbeats 400000 in
theorem mixes_any (x : Int) (hx : InU x) (w : World) (h : Table w) :
    Calls Tryd.prog 3 #[.int .u64 x] w fun e w' => e = .returned (.bool true) ∧ Below w.heap.size w w' := by
  go_enter Tryd.func3, Tryd.ntmps3
  go_wp2_with (first | (go_at_call 8; refine (mix_any _ hx _ h).mono ?_; rintro e w1 ⟨rfl, hb1⟩) | (go_at_call 9; refine (refmix_any _ hx _).mono ?_; rintro e w1 ⟨rfl, rfl⟩))
  go_returns
  exact ⟨by simp, by assumption⟩

set_option maxHeartbeats 400000 in
theorem unmixes_any (x : Int) (hx : InU x) (w : World) (h : Table w) :
    Calls Tryd.prog 4 #[.int .u64 x] w fun e w' => e = .returned (.bool true) ∧ Below w.heap.size w w' := by
  have H1 := Lib.hid (unmix_mixI x hx)
  have H2 := Lib.hid (mix_unmixI x hx)
  go_enter Tryd.func4, Tryd.ntmps4
  go_wp2_with fail
  refine (unmix_any _ hx _).mono ?_
  rintro e w1 ⟨rfl, rfl⟩
  go_wp2_with fail
  refine (mix_any _ hx _ h).mono ?_
  rintro e w1 ⟨rfl, hb1⟩
  have h1 := h.below hb1
  go_wp2_with fail
  refine (unmix_any _ (mixI_in x) _).mono ?_
  rintro e w2 ⟨he, rfl⟩
  rw [H1.out] at he
  subst he
  go_wp2_with fail
  refine (mix_any _ (unmixI_in x) _ h1).mono ?_
  rintro e w2 ⟨he, hb2⟩
  rw [H2.out] at he
  subst he
  go_wp2_with fail
  go_returns
  exact ⟨rfl, bthen hb1 hb2⟩
end Go.Proofs.YtbkphkbkfhpaaaaDoor
