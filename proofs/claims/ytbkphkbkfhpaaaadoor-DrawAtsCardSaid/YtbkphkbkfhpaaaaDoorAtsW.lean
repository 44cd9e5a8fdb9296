import Derived.Test.YtbkphkbkfhpaaaaDoorAt
import Derived.Deep.RegionHeld3
namespace Go.Proofs.YtbkphkbkfhpaaaaDoor
open Go.RowKit

/-- the spots' cells: three numbers each -/
def Spots (w : World) (A : Option Addr) (len : Nat) : Prop :=
  len * 24 ≤ 140737488351232 ∧ (0 < len → ∃ b o, A = some ⟨b, o, none⟩ ∧ ∀ i, i < len → ∃ s p l : Int, w.cell? ⟨b, o + i * 3, none⟩ = some (.int .u64 s) ∧ w.cell? ⟨b, o + i * 3 + 1, none⟩ = some (.int .i64 p) ∧ w.cell? ⟨b, o + i * 3 + 2, none⟩ = some (.int .i64 l))
theorem addr_add (b o n : Nat) : (⟨b, o, none⟩ : Addr).add n = ⟨b, o + n, none⟩ := by
  unfold Addr.add
  split <;> simp_all

/-- a spot's box, and what is known of the world around it -/
def Box (w0 : World) (B : Nat) (s p l : Int) (w' : World) : Prop :=
  w'.cell? ⟨B, 0, none⟩ = some (.int .u64 s) ∧ w'.cell? ⟨B, 1, none⟩ = some (.int .i64 p) ∧ w'.cell? ⟨B, 2, none⟩ = some (.int .i64 l) ∧ Table w' ∧ Below w0.heap.size w0 w'
theorem Box.next {w0 w1 w2 : World} {B : Nat} {s p l : Int} (h : Box w0 B s p l w1) (hb : Below w1.heap.size w1 w2) : Box w0 B s p l w2 := by
  obtain ⟨h0, h1, h2, ht, hB⟩ := h
  have hs := World.block_lt_of_cell? w1 _ h0
  exact ⟨(hb.cell (p := ⟨B, 0, none⟩) hs).trans h0, (hb.cell (p := ⟨B, 1, none⟩) hs).trans h1, (hb.cell (p := ⟨B, 2, none⟩) hs).trans h2, ht.below hb, bthen hB hb⟩
theorem Table.drew {w : World} (h : Table w) : Table w.drew := ⟨h.c0, h.c1, h.c2, h.c3, h.c4, h.c5⟩
theorem Box.drew {w0 w1 : World} {B : Nat} {s p l : Int} (h : Box w0 B s p l w1) : Box w0 B s p l w1.drew := ⟨h.1, h.2.1, h.2.2.1, h.2.2.2.1.drew, h.2.2.2.2.drew⟩
theorem at_box {w0 w1 : World} {B : Nat} {s p l : Int} (h : Box w0 B s p l w1) :
    Calls Tryd.prog 11 #[.int .u64 s, .int .i64 p, .int .i64 l] w1 fun e w' => e = .returned (.int .u64 (atI s p l)) ∧ Box w0 B s p l w' :=
  (at_any s p l w1 h.2.2.2.1).mono fun _ _ ⟨he, hb⟩ => ⟨he, h.next hb⟩
theorem refat_box {w0 w1 : World} {B : Nat} {s p l : Int} (h : Box w0 B s p l w1) :
    Calls Tryd.prog 12 #[.int .u64 s, .int .i64 p, .int .i64 l] w1 fun e w' => e = .returned (.int .u64 (atI s p l)) ∧ Box w0 B s p l w' :=
  (refat_any s p l w1).mono fun _ _ ⟨he, hb⟩ => ⟨he, hb ▸ h⟩

set_option maxHeartbeats 400000 in
theorem ats_any (A : Option Addr) (len cap : Nat) (w : World) (hr : Spots w A len) (h : Table w) :
    Calls Tryd.prog 5 #[.slice A len cap] w fun e w' => e = .returned (.bool true) ∧ Below w.heap.size w w' := by
  obtain ⟨hl, hr⟩ := hr
  go_enter Tryd.func5, Tryd.ntmps5
  go_wp2
  go_loopw [3] (fun i wr => ∃ k : Nat, k ≤ 2 * len ∧ i = .int .i64 k ∧ Below w.heap.size w wr) (fun i _ => 2 * len - (intOf i).toNat)
  case atStart => exact ⟨0, by omega, rfl, Below.refl _ _⟩
  case round =>
    obtain ⟨k, hk, rfl, hb⟩ := hrel
    have ht := h.below hb
    by_cases hlt : k < 2 * len
    · obtain ⟨b, o, rfl, hc⟩ := hr (by omega)
      clear hr
      obtain ⟨j, hj, hjl⟩ : ∃ j : Nat, (k : Int) % (len : Int) = (j : Int) ∧ j < len := ⟨k % len, by simp, Nat.mod_lt _ (by omega)⟩
      obtain ⟨s, p, l, c0, c1, c2⟩ := hc j hjl
      clear hc
      have hbl := World.block_lt_of_cell? w _ c0
      have ea := addr_add b o (j * 3)
      have e0 := (hb.cell (p := ⟨b, o + j * 3, none⟩) hbl).trans c0
      have e1 := (hb.cell (p := ⟨b, o + j * 3 + 1, none⟩) hbl).trans c1
      have e2 := (hb.cell (p := ⟨b, o + j * 3 + 2, none⟩) hbl).trans c2
      clear c0 c1 c2
      go_wp2
      have hx : Box w wr.heap.size s p l (wr.alloc (.cells #[.int .u64 s, .int .i64 p, .int .i64 l] 27)) :=
        ⟨by simp, by simp, by simp, ht.below ((Below.refl _ _).alloc (Nat.le_refl _) _), hb.alloc hb.size _⟩
      have hx' := hx
      obtain ⟨x0, x1, x2, x3, x4⟩ := hx'
      go_region_held3 (fun w' => w'.cell? ⟨wr.heap.size, 0, none⟩ = some (.int .u64 s) ∧ w'.cell? ⟨wr.heap.size, 1, none⟩ = some (.int .i64 p) ∧ w'.cell? ⟨wr.heap.size, 2, none⟩ = some (.int .i64 l) ∧ Table w' ∧ Below w.heap.size w w')
        (first | (refine ⟨?_, ?_, ?_, ?_, ?_⟩ <;> first | assumption | exact x0 | exact x1 | exact x2 | exact Table.drew (by assumption) | exact Below.drew (by assumption)))
        (first | (go_at_call 11; refine (at_box (w0 := w) (B := wr.heap.size) (by first | exact ⟨by assumption, by assumption, by assumption, by assumption, by assumption⟩ | exact Box.drew hx)).mono ?_; rintro e w' ⟨rfl, y0, y1, y2, y3, y4⟩) | (go_at_call 12; refine (refat_box (w0 := w) (B := wr.heap.size) (by first | exact ⟨by assumption, by assumption, by assumption, by assumption, by assumption⟩ | exact Box.drew hx)).mono ?_; rintro e w' ⟨rfl, y0, y1, y2, y3, y4⟩))
      all_goals go_wp2
      go_roundw
      case rel => exact ⟨k + 1, by omega, by go_num, by assumption⟩
      case measure => simp [intOf]; omega
    · go_wp2
      go_returns
      exact ⟨rfl, hb⟩
end Go.Proofs.YtbkphkbkfhpaaaaDoor
