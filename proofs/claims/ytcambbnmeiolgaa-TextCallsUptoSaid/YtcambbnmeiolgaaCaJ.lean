import Derived.Test.YtcambbnmeiolgaaCaH
import Derived.Test.YtcambbnmeiolgaaFix
namespace Go.Proofs.Ytcambbnmeiolgaa
open Go.RowKit
set_option maxRecDepth 100000 in
set_option maxHeartbeats 4000000 in
/-- TextCalls -/
theorem calls_law (X : Option Addr) (n c : Nat) (os : List OpT) (w : World) (hn : os.length = n) (hn2 : n ≤ 1048576) (hS : ScOk w X os) :
    Calls Try.prog 3 #[.slice X n c] w fun en w' => en = .returned (.bool true) ∧ Below w.heap.size w w' := by
  have SC := Lib.hid hS
  have g0 : ¬ (2147483647 : Int) < (n : Int) := by omega
  clear hS
  go_enter Try.func3, Try.ntmps3
  go_wp2_with fail
  refine (long_any _ _).mono ?_
  rintro e w1 ⟨rfl, rfl⟩
  go_wp2_with fail
  refine (fixed_any _).mono ?_
  rintro e w1 ⟨rfl, hb1⟩
  have CW0 := Cw.start w hb1
  generalize hq : w1.heap.size = q at *
  go_wp2
  generalize (w1.alloc (.cells (WC (.pointer none) (.pointer none) (.pointer none) (.pointer none) (.slice none 0 0) (.slice none 0 0)) 32)) = w2 at *
  clear hb1 hq
  go_loopw [3, 5] (fun okv iv wr => ∃ i : Nat, i ≤ n ∧ okv = .bool true ∧ iv = .int .i64 (i : Int) ∧ Cw w wr q i) (fun _ iv _ => n - (intOf iv).toNat)
  case atStart => exact ⟨0, by omega, rfl, rfl, CW0⟩
  case round =>
    clear CW0
    obtain ⟨i, hi, rfl, rfl, hC⟩ := hrel
    by_cases hlt : i < n
    · have g1 : (i : Int) < (n : Int) := by omega
      have hio : i < os.length := by omega
      obtain ⟨b, oo, rfl, hcl, hop⟩ := SC.out i hio
      have HOP := Lib.hid (fun w' (hb : Below w.heap.size w w') => hop.below hb)
      have YC := Lib.hid (fun w' (hb : Below w.heap.size w w') (j : Nat) (hj : j < 6) => (show w'.cell? ⟨b, oo + i * 6 + j, none⟩ = (opC (os[i]'hio))[j]? by
        have h4 := hcl j hj
        rw [Array.getElem?_eq_getElem hj] at h4 ⊢
        rw [World.cell?_of_block (w := w) (hb.block b (World.block_lt_of_cell? w _ h4))]
        exact h4))
      clear hcl hop
      generalize (os[i]'hio) = op at *
      have ea := addr_add b oo (i * 6)
      have y0 : wr.cell? ⟨b, oo + i * 6, none⟩ = some (.int .i64 op.kind) := YC.out wr hC.bl 0 (by omega)
      have y1 : wr.cell? ⟨b, oo + i * 6 + 1, none⟩ = some (.int .i64 op.on) := YC.out wr hC.bl 1 (by omega)
      have y2 : wr.cell? ⟨b, oo + i * 6 + 2, none⟩ = some (.slice op.A op.n op.a) := YC.out wr hC.bl 2 (by omega)
      have y3 : wr.cell? ⟨b, oo + i * 6 + 3, none⟩ = some (.slice op.A' op.m op.a') := YC.out wr hC.bl 3 (by omega)
      have y4 : wr.cell? ⟨b, oo + i * 6 + 4, none⟩ = some (.slice op.S op.sn op.sc) := YC.out wr hC.bl 4 (by omega)
      have y5 : wr.cell? ⟨b, oo + i * 6 + 5, none⟩ = some (.slice op.K op.kn op.kc) := YC.out wr hC.bl 5 (by omega)
      have HC := Lib.hid hC
      clear hC
      go_wp2_with fail
      refine (HC.out.does op HOP.out (by omega)).mono ?_
      rintro e w3 ⟨rfl, hC3⟩
      have HC3 := Lib.hid hC3
      clear hC3 y0 y1 y2 y3 y4 y5
      go_wp2_with fail
      refine (HC3.out.whole (by omega)).mono ?_
      rintro e w4 ⟨rfl, hC4⟩
      have HC4 := Lib.hid hC4
      clear hC4
      go_wp2
      go_roundw
      case rel => exact ⟨i + 1, by omega, rfl, by go_num, HC4.out⟩
      case measure => simp [intOf]; omega
    · obtain rfl : i = n := by omega
      have g1 : ¬ (i : Int) < (i : Int) := by omega
      have HC := Lib.hid hC
      clear hC
      go_wp2_with fail
      refine (strewn_any X i c os wr hn hn2 (SC.out.below HC.out.bl)).mono ?_
      rintro e w3 ⟨rfl, hb3⟩
      have FB := Lib.hid (bthen HC.out.bl hb3)
      clear hb3
      go_wp2
      go_returns
      exact ⟨rfl, FB.out⟩
end Go.Proofs.Ytcambbnmeiolgaa
