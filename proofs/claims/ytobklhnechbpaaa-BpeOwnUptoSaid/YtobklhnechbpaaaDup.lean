import Derived.Test.YtobklhnechbpaaaStill
import Derived.Test.YtobklhnechbpaaaPure
namespace Go.Proofs.Ytobklhnechbpaaa
open Go.RowKit

set_option maxRecDepth 100000 in
set_option maxHeartbeats 1000000 in
/-- twiceByte -/
theorem twiceByte_any (A A' : Option Addr) (n m c c' k0 : Nat) (bs : List Int) (ps : List (Int × Int)) (w : World) (hv : Voc w A A' n m bs ps) (hk0 : k0 < n) :
    Calls Try.prog 39 #[.agg #[.slice A n c, .slice A' m c'], .int .i64 (k0 : Int)] w fun e w' => e = .returned (.bool (dupAt bs k0)) ∧ Below w.heap.size w w' := by
  have h0 : Below w.heap.size w (w.alloc (.cells #[.slice A n c, .slice A' m c'] 25)) := by go_grown
  have q0 := Blk.new w #[.slice A n c, .slice A' m c'] 25
  have g := hv.below h0
  obtain ⟨hn, hm, b1, b2, _, _⟩ := hv
  have hlen : k0 < bs.length := by omega
  have hdup : dupAt bs k0 = decide (bs[k0] ∈ bs.take k0) := by simp [dupAt, hlen]
  have DUP := Lib.hid hdup
  clear hdup
  go_enter Try.func39, Try.ntmps39
  go_wp2
  generalize w.alloc (.cells #[.slice A n c, .slice A' m c'] 25) = w1 at *
  go_loopw [5] (fun i wr => ∃ k : Nat, k ≤ k0 ∧ i = .int .i64 k ∧ bs[k0] ∉ bs.take k ∧ Below w1.heap.size w1 wr) (fun i _ => k0 - (intOf i).toNat)
  case atStart => exact ⟨0, by omega, rfl, by simp, Below.refl _ _⟩
  case round =>
    obtain ⟨k, hk, rfl, he, hb⟩ := hrel
    have HE := Lib.hid he
    clear he
    have x0 : wr.cell? ⟨w.heap.size, 0, none⟩ = some (.slice A n c) := (q0.below hb).cell _
    have x1 : wr.cell? ⟨w.heap.size, 1, none⟩ = some (.slice A' m c') := (q0.below hb).cell _
    by_cases hlt : k < k0
    · obtain ⟨b, o, rfl, y1⟩ := (g.below hb).hx.b8 k (by omega)
      obtain ⟨b', o', e', y2⟩ := (g.below hb).hx.b8 k0 (by omega)
      obtain ⟨rfl, rfl⟩ : b = b' ∧ o = o' := by injection e' with e'; injection e' with e1 e2; exact ⟨e1, e2⟩
      have ea := addr_add b o k
      have ea' := addr_add b o k0
      clear e'
      have T1 := Lib.hid (List.take_succ_eq_append_getElem (show k < bs.length by omega))
      generalize hxv : bs[k]'(by omega) = x at *
      generalize hyv : bs[k0] = y at *
      skip
      have XV := Lib.hid hxv
      have YV := Lib.hid hyv
      have hmem : x ∈ bs.take k0 := by rw [← hxv]; exact List.mem_take_iff_getElem.2 ⟨k, by omega, rfl⟩
      have MEM := Lib.hid hmem
      clear hxv hyv hmem
      skip
      by_cases hq : x = y
      · subst hq
        have DUPv : dupAt bs k0 = true := by rw [DUP.out]; simpa using MEM.out
        have DV := Lib.hid DUPv
        clear DUPv
        go_wp2
        go_quiet (fail)
        all_goals go_wp2
        go_returns
        exact ⟨by rw [DV.out]; rfl, bthen h0 (bdraw hb _)⟩
      · have hne : (x == y) = false := by simpa using hq
        have HQ := Lib.hid hq
        clear hq
        go_wp2
        go_quiet (fail)
        all_goals go_wp2
        go_roundw
        case rel => exact ⟨k + 1, by omega, by go_num, by rw [T1.out]; simp only [List.mem_append, List.mem_singleton, not_or]; exact ⟨HE.out, fun e => HQ.out (by first | exact e.symm | (simp only [Prod.mk.injEq] at e; exact ⟨e.1.symm, e.2.symm⟩))⟩, bdraw hb _⟩
        case measure => simp [intOf]; omega
    · obtain rfl : k = k0 := by omega
      have DUPv : dupAt bs k = false := by rw [DUP.out]; simpa using HE.out
      have DV := Lib.hid DUPv
      clear DUPv
      go_wp2
      go_returns
      exact ⟨by rw [DV.out]; rfl, bthen h0 hb⟩

set_option maxRecDepth 100000 in
set_option maxHeartbeats 1000000 in
/-- twicePair -/
theorem twicePair_any (A A' : Option Addr) (n m c c' k0 : Nat) (bs : List Int) (ps : List (Int × Int)) (w : World) (hv : Voc w A A' n m bs ps) (hk0 : k0 < m) :
    Calls Try.prog 40 #[.agg #[.slice A n c, .slice A' m c'], .int .i64 (k0 : Int)] w fun e w' => e = .returned (.bool (dupAt ps k0)) ∧ Below w.heap.size w w' := by
  have h0 : Below w.heap.size w (w.alloc (.cells #[.slice A n c, .slice A' m c'] 25)) := by go_grown
  have q0 := Blk.new w #[.slice A n c, .slice A' m c'] 25
  have g := hv.below h0
  obtain ⟨hn, hm, b1, b2, _, _⟩ := hv
  have hlen : k0 < ps.length := by omega
  have hdup : dupAt ps k0 = decide (ps[k0] ∈ ps.take k0) := by simp [dupAt, hlen]
  have DUP := Lib.hid hdup
  clear hdup
  go_enter Try.func40, Try.ntmps40
  go_wp2
  generalize w.alloc (.cells #[.slice A n c, .slice A' m c'] 25) = w1 at *
  go_loopw [5] (fun i wr => ∃ k : Nat, k ≤ k0 ∧ i = .int .i64 k ∧ ps[k0] ∉ ps.take k ∧ Below w1.heap.size w1 wr) (fun i _ => k0 - (intOf i).toNat)
  case atStart => exact ⟨0, by omega, rfl, by simp, Below.refl _ _⟩
  case round =>
    obtain ⟨k, hk, rfl, he, hb⟩ := hrel
    have HE := Lib.hid he
    clear he
    have x0 : wr.cell? ⟨w.heap.size, 0, none⟩ = some (.slice A n c) := (q0.below hb).cell _
    have x1 : wr.cell? ⟨w.heap.size, 1, none⟩ = some (.slice A' m c') := (q0.below hb).cell _
    by_cases hlt : k < k0
    · obtain ⟨b, o, rfl, y1, z1⟩ := (g.below hb).hy.pr k (by omega)
      obtain ⟨b', o', e', y2, z2⟩ := (g.below hb).hy.pr k0 (by omega)
      obtain ⟨rfl, rfl⟩ : b = b' ∧ o = o' := by injection e' with e'; injection e' with e1 e2; exact ⟨e1, e2⟩
      have ea := addr_add b o (k * 2)
      have ea' := addr_add b o (k0 * 2)
      clear e'
      have T1 := Lib.hid (List.take_succ_eq_append_getElem (show k < ps.length by omega))
      generalize hxv : ps[k]'(by omega) = x at *
      generalize hyv : ps[k0] = y at *
      obtain ⟨xa, xb⟩ := x
      obtain ⟨ya, yb⟩ := y
      simp only at y1 z1 y2 z2
      have XV := Lib.hid hxv
      have YV := Lib.hid hyv
      have hmem : (xa, xb) ∈ ps.take k0 := by rw [← hxv]; exact List.mem_take_iff_getElem.2 ⟨k, by omega, rfl⟩
      have MEM := Lib.hid hmem
      clear hxv hyv hmem
      have heq := eq51
      by_cases hq : xa = ya ∧ xb = yb
      · obtain ⟨rfl, rfl⟩ := hq
        have DUPv : dupAt ps k0 = true := by rw [DUP.out]; simpa using MEM.out
        have DV := Lib.hid DUPv
        clear DUPv
        go_wp2
        go_quiet (fail)
        all_goals go_wp2
        go_returns
        exact ⟨by rw [DV.out]; rfl, bthen h0 (bdraw hb _)⟩
      · have hne : (xa == ya && xb == yb) = false := by simpa using hq
        have HQ := Lib.hid hq
        clear hq
        go_wp2
        go_quiet (fail)
        all_goals go_wp2
        go_roundw
        case rel => exact ⟨k + 1, by omega, by go_num, by rw [T1.out]; simp only [List.mem_append, List.mem_singleton, not_or]; exact ⟨HE.out, fun e => HQ.out (by first | exact e.symm | (simp only [Prod.mk.injEq] at e; exact ⟨e.1.symm, e.2.symm⟩))⟩, bdraw hb _⟩
        case measure => simp [intOf]; omega
    · obtain rfl : k = k0 := by omega
      have DUPv : dupAt ps k = false := by rw [DUP.out]; simpa using HE.out
      have DV := Lib.hid DUPv
      clear DUPv
      go_wp2
      go_returns
      exact ⟨by rw [DV.out]; rfl, bthen h0 hb⟩

end Go.Proofs.Ytobklhnechbpaaa
