import Derived.Test.YtlocogccjlecjaaDoorEsc
namespace Go.Proofs.YtlocogccjlecjaaDoor
open Go.RowKit
theorem SetPost.tr {s : ByteArray} {p : Nat} {pl : Int} {w w1 : World} {r : Option (Nat × Bool × Nat)} {e : Ending} {w' : World} (hk : Kp (fun z => z = p) w w1) (h : SetPost s p pl w1 r e w') : SetPost s p pl w r e w' := ⟨hk.trans h.1, h.2⟩
theorem index_inn (b : Nat) (w : World) : Calls Tryd.prog 77 #[.string ⟨#[93, 91, 94, 45]⟩, .int .u8 (b : Int)] w fun e w' => e = .returned (.int .i64 (Lib.indexByte (innL.map Nat.toUInt8) b.toUInt8)) ∧ w' = w := indexByte_any _ _ w
set_option maxRecDepth 100000 in
set_option maxHeartbeats 8000000 in
/-- inner -/
theorem inner_any (s : ByteArray) (p i : Nat) (pl : Int) (w : World) (hp : Prs w p s i) (hs : s.size ≤ 64) :
    Calls Tryd.prog 70 #[.pointer (some ⟨p, 0, none⟩), .int .i64 pl] w fun e w' => SetPost s p pl w (innF s i) e w' := by
  have h0 : Below w.heap.size w (w.alloc (.cells (setC 0) 84)) := by go_grown
  have q4 := Blk.new w (setC 0) 84
  have e0 : setC 0 = #[.int .u64 0, .int .u64 0, .int .u64 0, .int .u64 0] := by simp [setC, wd_zero]
  have hP : Prs (w.alloc (.cells (setC 0) 84)) p s i := Blk.below hp h0
  have hpw : p < w.heap.size := Blk.lt hp
  have hk : Kp (fun z => z = p) w (w.alloc (.cells (setC 0) 84)) := Kp.of_below h0
  rw [e0] at h0 hP hk q4
  go_enter Tryd.func70, Tryd.ntmps70
  go_wp2_with fail
  generalize w.alloc (.cells #[.int .u64 0, .int .u64 0, .int .u64 0, .int .u64 0] 84) = w1 at *
  rw [← e0] at q4
  clear e0 h0 hp
  refine (next_any s p i w1 hP).mono ?_
  rintro e w2 ⟨rfl, hb3⟩
  replace q4 := q4.below hb3
  replace hP := Blk.below hP hb3
  replace hk := hk.below hb3
  clear hb3
  by_cases hi : s.size ≤ i
  · have e1 : innF s i = none := by unfold innF; rw [if_pos (.inl hi)]
    have E1 := Lib.hid e1
    rw [if_neg (by omega), decide_eq_false (by omega)]
    clear e1
    go_wp2_with fail
    refine (fail_any _ _).mono ?_
    rintro e w3 ⟨rfl, rfl⟩
    go_wp2
    rw [E1.out]
    exact ⟨rfl, hk, rfl⟩
  · rw [if_pos (by omega), decide_eq_true (by omega)]
    have NI := Lib.hid hi
    clear hi
    obtain ⟨b, hb⟩ : ∃ b, b = bt s i := ⟨_, rfl⟩
    rw [← hb]
    have HB := Lib.hid hb
    have hbl : b < 256 := by rw [hb]; exact bt_lt _ _
    clear hb
    by_cases h32 : b < 32
    · have e1 : innF s i = none := by unfold innF; rw [if_pos (.inr (.inl (by rw [← HB.out]; exact h32)))]
      have E1 := Lib.hid e1
      have hbi : (b : Int) < 32 := by omega
      clear e1
      go_wp2_with fail
      refine (fail_any _ _).mono ?_
      rintro e w3 ⟨rfl, rfl⟩
      go_wp2
      rw [E1.out]
      exact ⟨rfl, hk, rfl⟩
    · have hbi : ¬ (b : Int) < 32 := by omega
      by_cases h126 : 126 < b
      · have e1 : innF s i = none := by unfold innF; rw [if_pos (.inr (.inr (.inl (by rw [← HB.out]; exact h126))))]
        have E1 := Lib.hid e1
        have hbj : 126 < (b : Int) := by omega
        clear e1
        go_wp2_with fail
        refine (fail_any _ _).mono ?_
        rintro e w3 ⟨rfl, rfl⟩
        go_wp2
        rw [E1.out]
        exact ⟨rfl, hk, rfl⟩
      · have hbj : ¬ 126 < (b : Int) := by omega
        go_wp2_with fail
        refine (index_inn b _).mono ?_
        rintro e w3 ⟨rfl, rfl⟩
        obtain ⟨z, hz⟩ : ∃ z, z = Lib.indexByte (innL.map Nat.toUInt8) b.toUInt8 := ⟨_, rfl⟩
        rw [← hz]
        have HZ : Hid (isIn innL b = decide (0 ≤ z)) := Lib.hid (by rw [hz]; rfl)
        clear hz
        by_cases hz0 : 0 ≤ z
        · have e1 : innF s i = none := by unfold innF; rw [if_pos (.inr (.inr (.inr (by rw [← HB.out, HZ.out]; exact decide_eq_true hz0))))]
          have E1 := Lib.hid e1
          clear e1
          go_wp2_with fail
          refine (fail_any _ _).mono ?_
          rintro e w4 ⟨rfl, rfl⟩
          go_wp2
          rw [E1.out]
          exact ⟨rfl, hk, rfl⟩
        · have e1 : innF s i = if bt s i = 92 then escF s i else some (spanN (bt s i) (bt s i), true, i + 1) := by
            unfold innF
            rw [if_neg]
            rintro (h | h | h | h)
            · exact NI.out h
            · rw [← HB.out] at h; omega
            · rw [← HB.out] at h; omega
            · rw [← HB.out, HZ.out] at h
              exact hz0 (of_decide_eq_true h)
          have E1 := Lib.hid e1
          clear e1
          by_cases h92 : b = 92
          · have e2 : innF s i = escF s i := by rw [E1.out, if_pos (by rw [← HB.out]; exact h92)]
            have E2 := Lib.hid e2
            subst h92
            clear e2 E1
            go_wp2_with fail
            refine (escape_any s p i pl _ hP (by have := NI.out; omega) hs).mono ?_
            rintro e w4 ⟨hk4, hm⟩
            cases hq : escF s i with
            | none =>
              rw [hq] at hm
              simp only at hm
              subst hm
              have e3 : innF s i = none := by rw [E2.out, hq]
              have E3 := Lib.hid e3
              clear e3 hq
              unfold Fault
              go_wp2
              rw [E3.out]
              exact ⟨rfl, hk.trans hk4, rfl⟩
            | some y =>
              obtain ⟨N, o, j⟩ := y
              rw [hq] at hm
              obtain ⟨rfl, hP⟩ := hm
              have E3 : Hid (innF s i = some (N, o, j)) := Lib.hid (by rw [E2.out, hq])
              clear hq
              replace q4 := q4.kp hk4 (by omega)
              replace hk := hk.trans hk4
              rw [setV_eq]
              have z0 : w4.cell? ⟨w.heap.size, 0, none⟩ = some (.int .u64 (wd 0 0 : Nat)) := q4.cell 0
              have g0 := q4.frozen 0
              have z1 : w4.cell? ⟨w.heap.size, 1, none⟩ = some (.int .u64 (wd 0 1 : Nat)) := q4.cell 1
              have g1 := q4.frozen 1
              have z2 : w4.cell? ⟨w.heap.size, 2, none⟩ = some (.int .u64 (wd 0 2 : Nat)) := q4.cell 2
              have g2 := q4.frozen 2
              have z3 : w4.cell? ⟨w.heap.size, 3, none⟩ = some (.int .u64 (wd 0 3 : Nat)) := q4.cell 3
              have g3 := q4.frozen 3
              have FF := Lib.hid (fin4 hk rfl q4 hP N)
              clear q4 hk hP hk4
              go_wp2
              refine bodyPost_ret (ret_set rfl _ _ w.heap.size N o rfl FF.out.1 rfl) rfl ?_
              rw [E3.out]
              exact ⟨FF.out.2.1, rfl, FF.out.2.2⟩
          · have hbn : ((b : Int) == 92) = false := ne_lit h92
            have e2 : innF s i = some (spanN b b, true, i + 1) := by rw [E1.out, if_neg (by rw [← HB.out]; exact h92), ← HB.out]
            have E2 := Lib.hid e2
            clear e2 E1
            have y1 : w3.cell? ⟨p, 1, none⟩ = some (.int .i64 (i : Int)) := Blk.cell hP 1
            have f1 := Blk.frozen hP 1
            have hil : i < 64 := by have := NI.out; omega
            go_wp2_with fail
            have hP2 : Prs (w3.setCell ⟨p, 1, none⟩ (.int .i64 ((i : Int) + 1))) p s (i + 1) := Blk.set hP 1 (.int .i64 ((i : Int) + 1))
            have q42 : Blk (w3.setCell ⟨p, 1, none⟩ (.int .i64 ((i : Int) + 1))) w.heap.size (setC 0) 84 := Blk.other q4 _ _ (by show w.heap.size ≠ p; omega)
            have hk2 : Kp (fun z => z = p) w (w3.setCell ⟨p, 1, none⟩ (.int .i64 ((i : Int) + 1))) := hk.set p 1 _ (fun _ => rfl)
            generalize w3.setCell ⟨p, 1, none⟩ (.int .i64 ((i : Int) + 1)) = w4 at *
            refine (span_any b b hbl hbl _).mono ?_
            rintro e w5 ⟨rfl, hb3⟩
            have q4 := q42.below hb3
            have hP := Blk.below hP2 hb3
            have hk := hk2.below hb3
            clear hb3 q42 hP2 hk2 y1 f1
            obtain ⟨N, hN⟩ : ∃ N, N = spanN b b := ⟨_, rfl⟩
            rw [← hN, setV_eq]
            have HN := Lib.hid hN
            clear hN
            have z0 : w5.cell? ⟨w.heap.size, 0, none⟩ = some (.int .u64 (wd 0 0 : Nat)) := q4.cell 0
            have g0 := q4.frozen 0
            have z1 : w5.cell? ⟨w.heap.size, 1, none⟩ = some (.int .u64 (wd 0 1 : Nat)) := q4.cell 1
            have g1 := q4.frozen 1
            have z2 : w5.cell? ⟨w.heap.size, 2, none⟩ = some (.int .u64 (wd 0 2 : Nat)) := q4.cell 2
            have g2 := q4.frozen 2
            have z3 : w5.cell? ⟨w.heap.size, 3, none⟩ = some (.int .u64 (wd 0 3 : Nat)) := q4.cell 3
            have g3 := q4.frozen 3
            have FF := Lib.hid (fin4 hk rfl q4 hP N)
            clear q4 hk hP
            go_wp2
            refine bodyPost_ret (ret_set rfl _ _ w.heap.size N true rfl FF.out.1 rfl) rfl ?_
            rw [E2.out, ← HN.out]
            exact ⟨FF.out.2.1, rfl, FF.out.2.2⟩
end Go.Proofs.YtlocogccjlecjaaDoor
