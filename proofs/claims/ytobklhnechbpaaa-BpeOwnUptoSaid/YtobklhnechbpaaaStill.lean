import Derived.Test.YtobklhnechbpaaaTwin
namespace Go.Proofs.Ytobklhnechbpaaa
open Go.RowKit

theorem B8_get (xs : List Int) (i : Nat) (h : i < xs.length) : (B8 xs)[i]? = some (.int .u8 xs[i]) := by simp [B8, h]
theorem Rd.cell0 {w : World} {g : Nat} {vs : List Value} (h : Rd w (some ⟨g, 0, none⟩) vs) (i : Nat) (hi : i < vs.length) : w.cell? ⟨g, i, none⟩ = vs[i]? := by
  rcases h with rfl | ⟨b, o, e, hc⟩
  · simp at hi
  · injection e with e
    injection e with e1 e2
    subst e1 e2
    simpa using hc i hi

set_option maxRecDepth 100000 in
set_option maxHeartbeats 1000000 in
/-- still -/
theorem still_any (A A' : Option Addr) (g h vc uc n m c c' : Nat) (bs : List Int) (ps : List (Int × Int)) (w : World) (ht : Tw w g h vc uc n m bs ps) (hv : Voc w A A' n m bs ps) :
    Calls Try.prog 16 #[.agg #[.slice (some ⟨g, 0, none⟩) n vc, .slice (some ⟨h, 0, none⟩) m uc], .agg #[.slice A n c, .slice A' m c']] w fun e w' => e = .returned (.bool true) ∧ Below w.heap.size w w' := by
  have h0 := two_below w (.slice (some ⟨g, 0, none⟩) n vc) (.slice (some ⟨h, 0, none⟩) m uc) (.slice A n c) (.slice A' m c')
  obtain ⟨q0, q1⟩ := two_boxes w (.slice (some ⟨g, 0, none⟩) n vc) (.slice (some ⟨h, 0, none⟩) m uc) (.slice A n c) (.slice A' m c')
  have gt := ht.below h0
  have gv := hv.below h0
  go_enter Try.func16, Try.ntmps16
  go_wp2_with fail
  refine (eqVocab_any _ _ A A' n m n m vc uc c c' bs bs ps ps _ gt.voc gv).mono ?_
  rintro e w1 ⟨he, hb⟩
  rw [show decide (bs = bs ∧ ps = ps) = true by simp] at he
  subst he
  replace q0 := q0.below hb
  replace q1 := q1.below hb
  replace gt := gt.below hb
  replace h0 : Below w.heap.size w w1 := h0.trans (hb.mono (by simp; omega))
  obtain ⟨r1, r2, l1, l2, hn, hm, b1, b2⟩ := gt
  have x0 : w1.cell? ⟨w.heap.size, 0, none⟩ = some (.slice (some ⟨g, 0, none⟩) n vc) := q0.cell _
  have x1 : w1.cell? ⟨w.heap.size, 1, none⟩ = some (.slice (some ⟨h, 0, none⟩) m uc) := q0.cell _
  have x2 : w1.cell? ⟨w.heap.size + 1, 0, none⟩ = some (.slice A n c) := q1.cell _
  have x3 : w1.cell? ⟨w.heap.size + 1, 1, none⟩ = some (.slice A' m c') := q1.cell _
  have y0 : w1.cell? ⟨g, n, none⟩ = some (.int .u8 225) := by
    rw [r1.cell0 n (by simp [B8]; omega), B8_append, List.getElem?_append_right (by simp [B8]; omega)]
    simp [B8, hn]
  have y1 : w1.cell? ⟨g, n + 1, none⟩ = some (.int .u8 226) := by
    rw [r1.cell0 (n + 1) (by simp [B8]; omega), B8_append, List.getElem?_append_right (by simp [B8]; omega)]
    simp [B8, hn]
  have hl := PR_length ps
  have y2 : w1.cell? ⟨h, m * 2, none⟩ = some (.int .i64 (-7)) := by
    rw [r2.cell0 (m * 2) (by rw [PR_append, List.length_append, hl]; simp [PR]; omega), PR_append, List.getElem?_append_right (by omega), hl, hm, Nat.mul_comm, Nat.sub_self]
    rfl
  have y3 : w1.cell? ⟨h, m * 2 + 1, none⟩ = some (.int .i64 (-8)) := by
    rw [r2.cell0 (m * 2 + 1) (by rw [PR_append, List.length_append, hl]; simp [PR]; omega), PR_append, List.getElem?_append_right (by omega), hl, hm, show m * 2 + 1 - 2 * m = 1 by omega]
    rfl
  have ea1 : (⟨g, 0, none⟩ : Addr).add n = ⟨g, n, none⟩ := by simpa using addr_add g 0 n
  have ea2 : (⟨g, 0, none⟩ : Addr).add (n + 1) = ⟨g, n + 1, none⟩ := by simpa using addr_add g 0 (n + 1)
  have ea3 : (⟨h, 0, none⟩ : Addr).add (m * 2) = ⟨h, m * 2, none⟩ := by simpa using addr_add h 0 (m * 2)
  have heq := eq51
  have HL := Lib.hid hl
  clear hl r1 r2 hb
  go_wp2
  go_returns
  exact ⟨rfl, h0⟩
end Go.Proofs.Ytobklhnechbpaaa
