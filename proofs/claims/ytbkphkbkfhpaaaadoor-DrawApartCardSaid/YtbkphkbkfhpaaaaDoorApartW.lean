import Derived.Test.YtbkphkbkfhpaaaaDoorAt
namespace Go.Proofs.YtbkphkbkfhpaaaaDoor
open Go.RowKit

theorem mixI_inj {x y : Int} (hx : InU x) (hy : InU y) (h : mixI x = mixI y) : x = y := by
  rw [← unmix_mixI x hx, ← unmix_mixI y hy, h]
theorem wrap_left {a b c : Int} (ha : InU a) (hb : InU b) (h : IntKind.u64.wrap (c + a) = IntKind.u64.wrap (c + b)) : a = b := by
  rw [IntKind.wrap_u64, IntKind.wrap_u64] at h
  unfold InU at *
  omega
theorem wrap_right {a b c : Int} (ha : InU a) (hb : InU b) (h : IntKind.u64.wrap (a + c) = IntKind.u64.wrap (b + c)) : a = b := by
  rw [IntKind.wrap_u64, IntKind.wrap_u64] at h
  unfold InU at *
  omega
theorem golden_inj {a b : Int} (ha : InU a) (hb : InU b) (h : IntKind.u64.wrap (11400714819323198485 * a) = IntKind.u64.wrap (11400714819323198485 * b)) : a = b := by
  obtain ⟨n, rfl, hn⟩ := ha.nat
  obtain ⟨m, rfl, hm⟩ := hb.nat
  have e : ∀ k : Nat, IntKind.u64.wrap (11400714819323198485 * (k : Int)) = ((11400714819323198485 * k % PureDraw.M : Nat) : Int) := fun k => by
    rw [show (11400714819323198485 * (k : Int)) = ((11400714819323198485 * k : Nat) : Int) by rw [Int.natCast_mul]; rfl, wrap_nat]
  rw [e, e] at h
  have h' : 11400714819323198485 * n % PureDraw.M = 11400714819323198485 * m % PureDraw.M := by omega
  have := PureDraw.odd_inj (gi := 17428512612931826493) h' (by decide)
  rw [Nat.mod_eq_of_lt (by exact hn), Nat.mod_eq_of_lt (by exact hm)] at this
  omega
theorem place_inj {p q : Int} (hp : -9223372036854775808 ≤ p ∧ p ≤ 9223372036854775807) (hq : -9223372036854775808 ≤ q ∧ q ≤ 9223372036854775807) {c : Int}
    (h : IntKind.u64.wrap (c + IntKind.u64.wrap (11400714819323198485 * IntKind.u64.wrap p)) = IntKind.u64.wrap (c + IntKind.u64.wrap (11400714819323198485 * IntKind.u64.wrap q))) : p = q := by
  have := golden_inj (wrap_in _) (wrap_in _) (wrap_left (wrap_in _) (wrap_in _) h)
  rw [IntKind.wrap_u64, IntKind.wrap_u64] at this
  omega
theorem at_seed {s t p l : Int} (hs : InU s) (ht : InU t) : (atI t p l == atI s p l) = (s == t) := by
  rw [Bool.eq_iff_iff]
  simp only [beq_iff_eq]
  constructor
  · intro h
    unfold atI at h
    have h1 := wrap_right (mixI_in _) (mixI_in _) (mixI_inj (wrap_in _) (wrap_in _) h)
    have h2 := wrap_right (mixI_in _) (mixI_in _) (mixI_inj (wrap_in _) (wrap_in _) h1)
    exact (wrap_right ht hs (mixI_inj (wrap_in _) (wrap_in _) h2)).symm
  · rintro rfl
    rfl
theorem at_pos {s p q l : Int} (hp : -9223372036854775808 ≤ p ∧ p ≤ 9223372036854775807) (hq : -9223372036854775808 ≤ q ∧ q ≤ 9223372036854775807) : (atI s q l == atI s p l) = (p == q) := by
  rw [Bool.eq_iff_iff]
  simp only [beq_iff_eq]
  constructor
  · intro h
    unfold atI at h
    have h1 := wrap_right (mixI_in _) (mixI_in _) (mixI_inj (wrap_in _) (wrap_in _) h)
    exact (place_inj hq hp (mixI_inj (wrap_in _) (wrap_in _) h1)).symm
  · rintro rfl
    rfl
theorem at_lane {s p l m : Int} (hp : -9223372036854775808 ≤ l ∧ l ≤ 9223372036854775807) (hq : -9223372036854775808 ≤ m ∧ m ≤ 9223372036854775807) : (atI s p m == atI s p l) = (l == m) := by
  rw [Bool.eq_iff_iff]
  simp only [beq_iff_eq]
  constructor
  · intro h
    unfold atI at h
    exact (place_inj hq hp (mixI_inj (wrap_in _) (wrap_in _) h)).symm
  · rintro rfl
    rfl

/-- both boxes, and what is known of the world around them -/
def Two (w0 : World) (B : Nat) (s1 p1 l1 s2 p2 l2 : Int) (w' : World) : Prop :=
  w'.cell? ⟨B, 0, none⟩ = some (.int .u64 s1) ∧ w'.cell? ⟨B, 1, none⟩ = some (.int .i64 p1) ∧ w'.cell? ⟨B, 2, none⟩ = some (.int .i64 l1) ∧
  w'.cell? ⟨B + 1, 0, none⟩ = some (.int .u64 s2) ∧ w'.cell? ⟨B + 1, 1, none⟩ = some (.int .i64 p2) ∧ w'.cell? ⟨B + 1, 2, none⟩ = some (.int .i64 l2) ∧
  Table w' ∧ Below w0.heap.size w0 w'
theorem Two.next {w0 w1 w2 : World} {B : Nat} {s1 p1 l1 s2 p2 l2 : Int} (h : Two w0 B s1 p1 l1 s2 p2 l2 w1) (hb : Below w1.heap.size w1 w2) : Two w0 B s1 p1 l1 s2 p2 l2 w2 := by
  obtain ⟨h0, h1, h2, h3, h4, h5, ht, hB⟩ := h
  have hs := World.block_lt_of_cell? w1 _ h0
  have hs' := World.block_lt_of_cell? w1 _ h3
  exact ⟨(hb.cell (p := ⟨B, 0, none⟩) hs).trans h0, (hb.cell (p := ⟨B, 1, none⟩) hs).trans h1, (hb.cell (p := ⟨B, 2, none⟩) hs).trans h2,
    (hb.cell (p := ⟨B + 1, 0, none⟩) hs').trans h3, (hb.cell (p := ⟨B + 1, 1, none⟩) hs').trans h4, (hb.cell (p := ⟨B + 1, 2, none⟩) hs').trans h5, ht.below hb, bthen hB hb⟩
theorem at_two {w0 w1 : World} {B : Nat} {s1 p1 l1 s2 p2 l2 : Int} (s p l : Int) (h : Two w0 B s1 p1 l1 s2 p2 l2 w1) :
    Calls Tryd.prog 11 #[.int .u64 s, .int .i64 p, .int .i64 l] w1 fun e w' => e = .returned (.int .u64 (atI s p l)) ∧ Two w0 B s1 p1 l1 s2 p2 l2 w' :=
  (at_any s p l w1 h.2.2.2.2.2.2.1).mono fun _ _ ⟨he, hb⟩ => ⟨he, h.next hb⟩
theorem two_start {w : World} {s1 p1 l1 s2 p2 l2 : Int} (h : Table w) :
    Two w w.heap.size s1 p1 l1 s2 p2 l2 ((w.alloc (.cells #[.int .u64 s1, .int .i64 p1, .int .i64 l1] 27)).alloc (.cells #[.int .u64 s2, .int .i64 p2, .int .i64 l2] 27)) := by
  have hb : Below w.heap.size w ((w.alloc (.cells #[.int .u64 s1, .int .i64 p1, .int .i64 l1] 27)).alloc (.cells #[.int .u64 s2, .int .i64 p2, .int .i64 l2] 27)) := by go_grown
  refine ⟨by simp, by simp, by simp, by simp, by simp, by simp, h.below hb, hb⟩

set_option maxHeartbeats 1000000 in
theorem apart_any (s1 p1 l1 s2 p2 l2 : Int) (hs : (atI s2 p1 l1 == atI s1 p1 l1) = (s1 == s2)) (hp : (atI s1 p2 l1 == atI s1 p1 l1) = (p1 == p2)) (hl : (atI s1 p1 l2 == atI s1 p1 l1) = (l1 == l2)) (w : World) (h : Table w) :
    Calls Tryd.prog 6 #[.agg #[.int .u64 s1, .int .i64 p1, .int .i64 l1], .agg #[.int .u64 s2, .int .i64 p2, .int .i64 l2]] w fun e w' => e = .returned (.bool true) ∧ Below w.heap.size w w' := by
  have T0 := two_start (s1 := s1) (p1 := p1) (l1 := l1) (s2 := s2) (p2 := p2) (l2 := l2) h
  go_enter Tryd.func6, Tryd.ntmps6
  go_wp2_with fail
  refine (at_two _ _ _ T0).mono ?_
  clear T0 h
  rintro e w1 ⟨rfl, T1⟩
  obtain ⟨a0, a1, a2, a3, a4, a5, _, _⟩ := id T1
  go_wp2_with fail
  refine (at_two _ _ _ T1).mono ?_
  clear T1 a0 a1 a2 a3 a4 a5
  rintro e w1 ⟨rfl, T1⟩
  obtain ⟨a0, a1, a2, a3, a4, a5, _, _⟩ := id T1
  go_wp2_with fail
  refine (at_two _ _ _ T1).mono ?_
  clear T1 a0 a1 a2 a3 a4 a5
  rintro e w1 ⟨rfl, T1⟩
  obtain ⟨a0, a1, a2, a3, a4, a5, _, _⟩ := id T1
  go_wp2_with fail
  refine (at_two _ _ _ T1).mono ?_
  clear T1 a0 a1 a2 a3 a4 a5
  rintro e w1 ⟨rfl, T1⟩
  obtain ⟨a0, a1, a2, a3, a4, a5, _, _⟩ := id T1
  go_wp2_with fail
  refine (at_two _ _ _ T1).mono ?_
  clear T1 a0 a1 a2 a3 a4 a5
  rintro e w1 ⟨rfl, T1⟩
  obtain ⟨a0, a1, a2, a3, a4, a5, _, hb⟩ := id T1
  go_wp2_with fail
  all_goals go_returns
  all_goals exact ⟨by simp, hb⟩
end Go.Proofs.YtbkphkbkfhpaaaaDoor
