import Derived.Test.YtlocogccjlecjaaDoorLivQ
import Derived.Lib.SlBytesConst
/- lives -/
namespace Go.Proofs.YtlocogccjlecjaaDoor
open Go.RowKit
theorem m1 : matchF asbL asbQ [97, 97, 98] = true := by kernel_rfl
theorem m2 : matchF asbL asbQ [97, 97] = false := by kernel_rfl
theorem rd_new (w : World) (l : List Nat) (fr : Nat × Nat) : Rd (w.alloc (.cells (U8 l).toArray 5 fr)) (some ⟨w.heap.size, 0, none⟩) (U8 l) := by
  refine .inr ⟨w.heap.size, 0, rfl, fun i _ => ?_⟩
  have hb : (w.alloc (.cells (U8 l).toArray 5 fr)).heap[w.heap.size]? = some (.cells (U8 l).toArray 5 fr) := (MapKept.heap_alloc w _).1
  simp only [World.cell?, hb, Nat.zero_add]
  rw [List.getElem?_toArray]
  rfl
set_option maxRecDepth 100000 in
set_option maxHeartbeats 4000000 in
theorem lives_any (w : World) (hT : Tab w) : Calls Tryd.prog 19 #[] w fun e w' => e = .returned (.bool true) ∧ Below w.heap.size w w' := by
  have hc := compile_any asb w hT
  go_enter Tryd.func19, Tryd.ntmps19
  go_wp2_with fail
  refine hc.mono ?_
  rintro e w1 ⟨hb1, hcm⟩
  obtain ⟨d, rfl, hd⟩ := hcm.fix asb_pars asb_cmp rfl rfl
  have hs := dfaS_of (t := asbT) (q := asbQ) (ls := asbL) asb_cmp rfl hd
  have hst := states_ok hs
  have HS := Lib.hid hs
  have HST := Lib.hid hst
  clear hs hst hd hcm hc
  go_wp2_with fail
  refine HST.out.mono ?_
  rintro e w2 ⟨rfl, rfl⟩
  have hlen : ((asbL.length : Nat) : Int) = 2 := rfl
  rw [hlen]
  have b1 : Below w1.heap.size w1 (w1.alloc (.cells #[.int .u8 97, .int .u8 97, .int .u8 98] 5 (3, 4))) := by go_grown
  have b2 : Below w1.heap.size w1 ((w1.alloc (.cells #[.int .u8 97, .int .u8 97, .int .u8 98] 5 (3, 4))).alloc (.cells #[.int .u8 97, .int .u8 97] 5 (2, 3))) := by go_grown
  have HS2 := HS.out.below b1
  have HS3 := HS.out.below b2
  have r1 : Rd (w1.alloc (.cells #[.int .u8 97, .int .u8 97, .int .u8 98] 5 (3, 4))) (some ⟨w1.heap.size, 0, none⟩) (U8 [97, 97, 98]) := rd_new w1 [97, 97, 98] (3, 4)
  have r2 : Rd ((w1.alloc (.cells #[.int .u8 97, .int .u8 97, .int .u8 98] 5 (3, 4))).alloc (.cells #[.int .u8 97, .int .u8 97] 5 (2, 3))) (some ⟨w1.heap.size + 1, 0, none⟩) (U8 [97, 97]) := by
    have h := rd_new (w1.alloc (.cells #[.int .u8 97, .int .u8 97, .int .u8 98] 5 (3, 4))) [97, 97] (2, 3)
    simp only [World.size_alloc] at h
    exact h
  have hcv1 := Lib.run_convert_bytes_const (P := Tryd.prog) w1 37 5 #[.int .u8 97, .int .u8 97, .int .u8 98] 3 3 Tryd.underlying37 Tryd.underlying5
  have hcv2 := Lib.run_convert_bytes_const (P := Tryd.prog) (w1.alloc (.cells #[.int .u8 97, .int .u8 97, .int .u8 98] 5 (3, 4))) 37 5 #[.int .u8 97, .int .u8 97] 2 2 Tryd.underlying37 Tryd.underlying5
  simp only [World.size_alloc] at hcv2
  simp only [List.size_toArray, List.length_cons, List.length_nil, Nat.zero_add, Nat.reduceAdd] at hcv1 hcv2
  have C1 := Lib.hid (match_any HS2 (some ⟨w1.heap.size, 0, none⟩) 3 3 [97, 97, 98] r1 rfl (by decide) (by decide))
  have C2 := Lib.hid (match_any HS3 (some ⟨w1.heap.size + 1, 0, none⟩) 2 2 [97, 97] r2 rfl (by decide) (by decide))
  have C3 := Lib.hid (accepts_ok HS3 1 (0, true) rfl)
  have C4 := Lib.hid (accepts_ok HS3 0 (3, false) rfl)
  have B2 := Lib.hid b2
  rw [m1] at C1
  rw [m2] at C2
  clear HS2 HS3 r1 r2 b1 b2
  go_wp2_with fail
  refine C1.out.mono ?_
  rintro e w2 ⟨rfl, rfl⟩
  go_wp2_with fail
  refine C2.out.mono ?_
  rintro e w2 ⟨rfl, rfl⟩
  go_wp2_with fail
  refine C3.out.mono ?_
  rintro e w2 ⟨rfl, rfl⟩
  go_wp2_with fail
  refine C4.out.mono ?_
  rintro e w2 ⟨rfl, rfl⟩
  go_wp2
  go_returns
  exact ⟨rfl, hb1.trans (B2.out.mono hb1.size)⟩
end Go.Proofs.YtlocogccjlecjaaDoor
