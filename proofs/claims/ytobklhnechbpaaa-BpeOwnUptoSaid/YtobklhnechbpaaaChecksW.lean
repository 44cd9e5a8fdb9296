import Derived.Test.YtobklhnechbpaaaChk
namespace Go.Proofs.Ytobklhnechbpaaa
open Go.RowKit

set_option maxRecDepth 100000 in
set_option maxHeartbeats 2000000 in
theorem checks_any (A A' : Option Addr) (n m c c' : Nat) (bs : List Int) (ps : List (Int × Int)) (w : World) (hv : Voc w A A' n m bs ps) (hwf : Wf bs ps) (k1 : n * 1 ≤ 140737488355320) (k2 : m * 16 ≤ 140737488355312) :
    Calls Try.prog 3 #[.agg #[.slice A n c, .slice A' m c']] w fun e w' => e = .returned (.bool true) ∧ Below w.heap.size w w' := by
  have h0 : Below w.heap.size w (w.alloc (.cells #[.slice A n c, .slice A' m c'] 25)) := by go_grown
  have q0 := Blk.new w #[.slice A n c, .slice A' m c'] 25
  go_enter Try.func3, Try.ntmps3
  go_wp2_with fail
  refine (twin_any A A' n m c c' bs ps _ (hv.below h0) k1 k2).mono ?_
  rintro e w1 ⟨g, h, vc, uc, rfl, tw, _, _, hb⟩
  replace q0 := q0.below hb
  replace h0 := bthen h0 hb
  clear hb
  have h1 : Below w1.heap.size w1 (w1.alloc (.cells #[.slice (some ⟨g, 0, none⟩) n vc, .slice (some ⟨h, 0, none⟩) m uc] 25)) := by go_grown
  go_wp2_with fail
  have hv1 := (tw.below h1)
  have q1 := q0.below h1
  have q2 := Blk.new w1 #[.slice (some ⟨g, 0, none⟩) n vc, .slice (some ⟨h, 0, none⟩) m uc] 25
  replace h0 := bthen h0 h1
  clear q0 h1 tw
  generalize w1.heap.size = N at *
  generalize w1.alloc _ = w2 at *
  refine (check_any _ _ n m vc uc bs ps w2 hv1.voc hwf).mono ?_
  rintro e w3 ⟨rfl, hb⟩
  replace hv1 := hv1.below hb
  replace q1 := q1.below hb
  replace q2 := q2.below hb
  replace h0 := bthen h0 hb
  clear hb
  have x0 : w3.cell? ⟨w.heap.size, 0, none⟩ = some (.slice A n c) := q1.cell _
  have x1 : w3.cell? ⟨w.heap.size, 1, none⟩ = some (.slice A' m c') := q1.cell _
  have x2 : w3.cell? ⟨N, 0, none⟩ = some (.slice (some ⟨g, 0, none⟩) n vc) := q2.cell _
  have x3 : w3.cell? ⟨N, 1, none⟩ = some (.slice (some ⟨h, 0, none⟩) m uc) := q2.cell _
  go_wp2_with fail
  refine (size_any _ _ n m vc uc bs ps w3 hv1.voc hwf).mono ?_
  rintro e w4 ⟨rfl, hb⟩
  replace hv1 := hv1.below hb
  replace q1 := q1.below hb
  replace q2 := q2.below hb
  replace h0 := bthen h0 hb
  clear hb x0 x1 x2 x3
  have x0 : w4.cell? ⟨w.heap.size, 0, none⟩ = some (.slice A n c) := q1.cell _
  have x1 : w4.cell? ⟨w.heap.size, 1, none⟩ = some (.slice A' m c') := q1.cell _
  have x2 : w4.cell? ⟨N, 0, none⟩ = some (.slice (some ⟨g, 0, none⟩) n vc) := q2.cell _
  have x3 : w4.cell? ⟨N, 1, none⟩ = some (.slice (some ⟨h, 0, none⟩) m uc) := q2.cell _
  go_wp2_with fail
  refine (refCheck_any A A' n m c c' bs ps w4 (hv.below h0)).mono ?_
  rintro e w5 ⟨rfl, hb⟩
  replace hv1 := hv1.below hb
  replace q1 := q1.below hb
  replace q2 := q2.below hb
  replace h0 := bthen h0 hb
  clear hb x0 x1 x2 x3
  have x0 : w5.cell? ⟨w.heap.size, 0, none⟩ = some (.slice A n c) := q1.cell _
  have x1 : w5.cell? ⟨w.heap.size, 1, none⟩ = some (.slice A' m c') := q1.cell _
  have x2 : w5.cell? ⟨N, 0, none⟩ = some (.slice (some ⟨g, 0, none⟩) n vc) := q2.cell _
  have x3 : w5.cell? ⟨N, 1, none⟩ = some (.slice (some ⟨h, 0, none⟩) m uc) := q2.cell _
  go_wp2_with fail
  refine (refSize_any A A' n m c c' bs ps w5 (hv.below h0)).mono ?_
  rintro e w6 ⟨rfl, hb⟩
  replace hv1 := hv1.below hb
  replace q1 := q1.below hb
  replace q2 := q2.below hb
  replace h0 := bthen h0 hb
  clear hb x0 x1 x2 x3
  have x0 : w6.cell? ⟨w.heap.size, 0, none⟩ = some (.slice A n c) := q1.cell _
  have x1 : w6.cell? ⟨w.heap.size, 1, none⟩ = some (.slice A' m c') := q1.cell _
  have x2 : w6.cell? ⟨N, 0, none⟩ = some (.slice (some ⟨g, 0, none⟩) n vc) := q2.cell _
  have x3 : w6.cell? ⟨N, 1, none⟩ = some (.slice (some ⟨h, 0, none⟩) m uc) := q2.cell _
  go_wp2_with fail
  refine (still_any A A' g h vc uc n m c c' bs ps w6 hv1 (hv.below h0)).mono ?_
  rintro e w7 ⟨rfl, hb⟩
  replace hv1 := hv1.below hb
  replace q1 := q1.below hb
  replace q2 := q2.below hb
  replace h0 := bthen h0 hb
  clear hb x0 x1 x2 x3
  have x0 : w7.cell? ⟨w.heap.size, 0, none⟩ = some (.slice A n c) := q1.cell _
  have x1 : w7.cell? ⟨w.heap.size, 1, none⟩ = some (.slice A' m c') := q1.cell _
  have x2 : w7.cell? ⟨N, 0, none⟩ = some (.slice (some ⟨g, 0, none⟩) n vc) := q2.cell _
  have x3 : w7.cell? ⟨N, 1, none⟩ = some (.slice (some ⟨h, 0, none⟩) m uc) := q2.cell _
  go_wp2
  go_returns
  exact ⟨rfl, h0⟩
end Go.Proofs.Ytobklhnechbpaaa
