import Derived.Test.YtlcgkdhcdldlfaaDoorCleanW
namespace Go.Proofs.YtlcgkdhcdldlfaaDoor
open Go.RowKit

theorem info42' : (Tryd.prog.info? 42).map (fun i => (i.zero, i.size, i.bytes)) = some (some (.agg #[.int .i64 0, .int .i64 0, .int .i64 0]), 3, 24) := by kernel_rfl
theorem NC_snoc' (t : List Nd) (p : Nd) : NC t ++ [.int .i64 p.1, .int .i64 p.2.1, .int .i64 p.2.2] = NC (t ++ [p]) := by simp [NC]
theorem Rd.take {w : World} {A : Option Addr} {L : List Int} (h : Rd w A (I64 L)) (k : Nat) : Rd w A (I64 (L.take k)) := by
  refine Rd.left (ys := I64 (L.drop k)) ?_
  unfold I64 at *
  rw [← List.map_append, List.take_append_drop]
  exact h
theorem waysR_small (r : List RNd) (v : Int) (hr : r.length ≤ 96) : ∀ i, ((waysR r v).getD i []).length ≤ 100000 := fun i => by
  rcases Nat.eq_zero_or_pos r.length with h | h
  · obtain rfl := List.length_eq_zero_iff.1 h
    simp [waysR, waysD]
  · have := addD_small r v (D := r.length) r.length i h hr (Nat.le_refl _)
    rw [wD_next r v h] at this
    exact this
theorem waysR_len (r : List RNd) (v : Int) (hr : r.length ≤ 96) : (waysR r v).length ≤ 9216 := by
  have := waysD_len r v hr r.length
  unfold waysR
  omega

set_option maxRecDepth 100000 in
set_option maxHeartbeats 400000 in
/-- augurref14.Clean, of too many nodes -/
theorem clean_long (A : Option Addr) (n c : Nat) (root v : Int) (w : World) (hm : 96 < n) (hn : n ≤ 140737488355328) :
    Calls Tryd.prog 6 #[.int .i64 root, .slice A n c, .int .i64 v] w fun e w' => e = .returned (.tuple #[.slice none 0 0, .int .i64 140]) ∧ Below w.heap.size w w' := by
  have h1 : (96 : Int) < (n : Int) := by omega
  go_enter Tryd.func6, Tryd.ntmps6
  go_wp2
  go_returns
  exact ⟨rfl, Below.refl _ _⟩

set_option maxRecDepth 100000 in
set_option maxHeartbeats 4000000 in
/-- augurref14.Clean -/
theorem clean_any (A : Option Addr) (n c : Nat) (root : Int) (r : List RNd) (v : Int) (w : World) (hl : r.length = n) (hm : n ≤ 96) (hx : Rd w A (PR r)) :
    Calls Tryd.prog 6 #[.int .i64 root, .slice A n c, .int .i64 v] w fun e w' => ∃ u, e = .returned (.tuple #[u, .int .i64 0]) ∧ w'.ownsRow w.heap.size 42 3 u (cleanT root r v).length (NC (cleanT root r v)) ∧ Below w.heap.size w w' := by
  subst hl
  have h0 : ¬ (96 : Int) < (r.length : Int) := by omega
  have AB := Lib.hid (fun i h => above (r := r) (v := v) (i := i) h)
  have SM := Lib.hid (waysR_small r v hm)
  have wl := waysR_len r v hm
  have CT := Lib.hid (show cleanT root r v = cleanL root (waysR r v) (min 31 (waysR r v).length) from rfl)
  go_enter Tryd.func6, Tryd.ntmps6
  go_wp2_with fail
  refine (ways_any A r.length c r v w rfl hm hx).mono ?_
  rintro e w1 ⟨u, vals, rfl, ow, hw, hb⟩
  obtain ⟨wA, wc, rfl, _, _⟩ := own_rd ow
  clear hx
  generalize waysR r v = ws at *
  go_wp2
  have r1 : (w1.alloc (.cells #[.int .i64 (-1), .int .i64 root, .int .i64 0] 42)).ownsRow w.heap.size 42 3 (.slice (some ⟨w1.heap.size, 0, none⟩) 1 1) 1 (NC (cleanL root ws 0)) := by
    simpa [NC, cleanL] using World.ownsRow_lit (base := w.heap.size) (e := 42) (size := 3) w1 #[.int .i64 (-1), .int .i64 root, .int .i64 0] 1 hb.size (by unfold maxLen; omega) rfl
  have hb1 := hb.alloc hb.size (.cells #[.int .i64 (-1), .int .i64 root, .int .i64 0] 42)
  have hbn : Below w1.heap.size w1 (w1.alloc (.cells #[.int .i64 (-1), .int .i64 root, .int .i64 0] 42)) := (Below.refl _ _).alloc (Nat.le_refl _) _
  have ow1 := own_below ow hbn
  have hw1 := hw.below hbn
  clear hb hbn ow hw
  generalize w1.alloc (.cells #[.int .i64 (-1), .int .i64 root, .int .i64 0] 42) = w2 at *
  generalize w1.heap.size = G at *
  go_loopw [9, 10, 11, 12] (fun t i _ _ wr => ∃ k : Nat, k ≤ ws.length ∧ k ≤ 31 ∧ i = .int .i64 (k : Int) ∧ wr.ownsRow w.heap.size 42 3 t (k + 1) (NC (cleanL root ws k)) ∧ wr.ownsRow w.heap.size 23 1 (.slice wA ws.length wc) ws.length vals ∧ WL wr w.heap.size vals ws ∧ Below w.heap.size w wr) (fun _ i _ _ _ => ws.length - (intOf i).toNat)
  case atStart => exact ⟨0, by omega, by omega, rfl, r1, ow1, hw1, hb1⟩
  case round =>
    clear r1 ow1 hw1 hb1
    obtain ⟨k, hk, hk31, rfl, ot, ow, hw, hb⟩ := hrel
    obtain ⟨tA, tc, rfl, _, _⟩ := own_rd ot
    by_cases hlt : k < ws.length
    · by_cases h31 : k < 31
      · have g1 : (k : Int) < (ws.length : Int) := by omega
        have g2 : (k : Int) + 1 < 32 := by omega
        obtain ⟨xA, xc, hu, hc, hr, hs⟩ := hw.at k hlt
        obtain ⟨a1, _, _⟩ := AB.out k hlt
        obtain ⟨g, rfl⟩ := hs a1
        have hsm := SM.out k
        obtain ⟨b, o, rfl, y0⟩ := (own_rdA ow).at k (by have := hw.1; omega)
        rw [← List.getElem?_eq_getElem, hu] at y0
        have ea := addr_add b o k
        have CS := Lib.hid (cleanL_succ root ws k)
        have CN := Lib.hid (show cleanN ws k = (if 1 < (ws.getD k []).length then 1 + placeI ws ((ws.getD k []).take ((ws.getD k []).length - 1)) else 0, (ws.getD k []).getD ((ws.getD k []).length - 1) 0, ((ws.getD k []).length : Int)) from rfl)
        clear hu
        generalize ws.getD k [] = L at *
        obtain ⟨M, hM⟩ : ∃ M, L.length = M + 1 := ⟨L.length - 1, by omega⟩
        have z0 := hr.i64At M (by omega)
        have LM : L[M]'(by omega) = L.getD M 0 := by simp [show M < L.length by omega]
        rw [Nat.zero_add, LM] at z0
        have em : (⟨g, 0, none⟩ : Addr).add M = ⟨g, M, none⟩ := by simpa using addr_add g 0 M
        rw [hM, Nat.add_sub_cancel] at CN
        rw [hM] at y0 hc
        clear LM
        generalize L.getD M 0 = X at *
        by_cases h1 : 1 ≤ M
        · have CN' := Lib.hid (CN.out.trans (by rw [if_pos (by omega)] : _ = ((1 + placeI ws (L.take M), X, ((M + 1 : Nat) : Int)) : Nd)))
          have lt : (L.take M).length = M := by rw [List.length_take]; omega
          have rt := hr.take M
          have pl := placeI_le ws (L.take M)
          have hw1 : IntKind.i64.wrap (1 + placeI ws (L.take M)) = 1 + placeI ws (L.take M) := IntWalk.i64_in _ (by omega)
          have g3 : (1 : Int) < (M : Int) + 1 := by omega
          have g4 : 1 ≤ (M : Int) := by omega
          have g5 : (M : Int) ≤ (xc : Int) := by omega
          have g6 : (M : Int) ≤ 100000 := by omega
          have g7 : M ≤ 100000 := by omega
          clear CN hM
          generalize L.take M = LT at *
          go_wp2_with fail
          ((with_reducible refine (place_any _ (some ⟨g, 0, none⟩) ws.length wc M xc w.heap.size vals ws LT wr rfl (by omega) (own_rdA ow) hw (fun i _ => SM.out i) lt rt).mono ?_); rintro e w3 ⟨rfl, hb3⟩)
          replace ot := own_below ot hb3
          replace ow := own_below ow hb3
          replace hw := hw.below hb3
          have y1 : w3.cell? ⟨b, o + k, none⟩ = _ := (hb3.cell (p := ⟨b, o + k, none⟩) (World.block_lt_of_cell? wr _ y0)).trans y0
          have z1 : w3.cell? ⟨g, M, none⟩ = _ := (hb3.cell (p := ⟨g, M, none⟩) (World.block_lt_of_cell? wr _ z0)).trans z0
          replace hb := bthen hb hb3
          clear hb3 y0 z0 rt lt hr
          have hw2 := Lib.hid hw1
          generalize placeI ws LT = Pl at *
          go_wp2_with (at_builtin; refine app (w0 := w) w.heap.size rfl _ _ 27 42 (.agg #[.int .i64 0, .int .i64 0, .int .i64 0]) 3 24 rfl Tryd.underlying27 info42' rfl (by decide) (by decide) (.slice tA (k + 1) tc) (k + 1) (NC (cleanL root ws k)) #[.int .i64 (1 + Pl), .int .i64 X, .int .i64 ((M : Int) + 1)] rfl rfl rfl (by simp [Value.oneCell']) ot hb hb.size (by omega) ?_; intro g' cap w4 ot4 hb4 hg4 _)
          go_roundw
          case rel =>
            refine ⟨k + 1, by omega, by omega, by go_num, ?_, ow.kept hg4 (own_type_ne ow ot (by decide)), hw.grown ot (by decide) hg4, hb4⟩
            rw [CS.out, CN'.out, ← NC_snoc']
            exact ot4
          case measure => simp [intOf]; omega
        · obtain rfl : M = 0 := by omega
          have CN' := Lib.hid (CN.out.trans (by rw [if_neg (by omega)]; rfl : _ = ((0, X, 1) : Nd)))
          rw [Nat.zero_add] at y0
          have ez : (⟨g, 0, none⟩ : Addr).add 0 = ⟨g, 0, none⟩ := by simpa using addr_add g 0 0
          clear CN hM em
          go_wp2_with (at_builtin; refine app (w0 := w) w.heap.size rfl _ _ 27 42 (.agg #[.int .i64 0, .int .i64 0, .int .i64 0]) 3 24 rfl Tryd.underlying27 info42' rfl (by decide) (by decide) (.slice tA (k + 1) tc) (k + 1) (NC (cleanL root ws k)) #[.int .i64 0, .int .i64 X, .int .i64 1] rfl rfl rfl (by simp [Value.oneCell']) ot hb hb.size (by omega) ?_; intro g' cap w4 ot4 hb4 hg4 _)
          go_roundw
          case rel =>
            refine ⟨k + 1, by omega, by omega, by go_num, ?_, ow.kept hg4 (own_type_ne ow ot (by decide)), hw.grown ot (by decide) hg4, hb4⟩
            rw [CS.out, CN'.out, ← NC_snoc']
            exact ot4
          case measure => simp [intOf]; omega
      · obtain rfl : k = 31 := by omega
        have g1 : (31 : Int) < (ws.length : Int) := by omega
        go_wp2
        go_returns
        exact ⟨_, rfl, by rw [CT.out, Nat.min_eq_left (by omega), cleanL_length]; exact ot, hb⟩
    · obtain rfl : k = ws.length := by omega
      go_wp2
      go_returns
      exact ⟨_, rfl, by rw [CT.out, Nat.min_eq_right (by omega), cleanL_length]; exact ot, hb⟩

/-- places as numbers -/
theorem nats_snoc' (l : List Nat) (a : Nat) : nats (l ++ [a]) = nats l ++ [(a : Int)] := by simp [nats]
set_option maxRecDepth 100000 in
set_option maxHeartbeats 1000000 in
/-- augurref14.Way -/
theorem way14_any (A : Option Addr) (n c : Nat) (t : List Nd) (hT : isT t) (hl : t.length = n) : ∀ (i : Nat) (_ : i < n) (w : World) (_ : Rd w A (NC t)),
    Calls Tryd.prog 20 #[.slice A n c, .int .i64 (i : Int)] w fun e w' => ∃ u, e = .returned u ∧ w'.ownsRow w.heap.size 3 1 u (pathT t i).length (I64 (nats (pathT t i))) ∧ Below w.heap.size w w' := by
  intro i
  induction i using Nat.strongRecOn with
  | _ i ih =>
    intro hi w hx
    have h32 := hT.2.1
    rcases Nat.eq_zero_or_pos i with rfl | h
    · have P0 := Lib.hid (pathT_zero t)
      have r1 : (w.alloc (.cells #[.int .i64 0] 3)).ownsRow w.heap.size 3 1 (.slice (some ⟨w.heap.size, 0, none⟩) 1 1) 1 (I64 (nats [0])) := World.ownsRow_lit (base := w.heap.size) (e := 3) (size := 1) w #[.int .i64 0] 1 (Nat.le_refl _) (by unfold maxLen; omega) rfl
      go_enter Tryd.func20, Tryd.ntmps20
      go_wp2
      go_returns
      exact ⟨_, rfl, by rw [P0.out]; exact r1, (Below.refl _ _).alloc (Nat.le_refl _) _⟩
    · obtain ⟨e, h1, h2⟩ := pathT_step hT (by omega) h
      obtain ⟨g1, _⟩ := pathT_ok hT (par t i).toNat (by omega)
      obtain ⟨b, o, rfl, u0, _, _⟩ := hx.nd i (by omega)
      have ea := addr_add b o (i * 3)
      have hii : (i : Int) < (n : Int) := by omega
      have hip : (0 : Int) < (i : Int) := by omega
      have E := Lib.hid e
      have IH := Lib.hid ih
      rw [h2] at u0
      clear e ih
      generalize (par t i).toNat = p at *
      clear h2
      go_enter Tryd.func20, Tryd.ntmps20
      go_wp2_with fail
      refine (IH.out p h1 (by omega) w hx).mono ?_
      rintro e w1 ⟨u, rfl, ou, hb⟩
      obtain ⟨uA, uc, rfl, _, _⟩ := own_rd ou
      generalize pathT t p = L at *
      go_wp2_with (at_builtin; refine app (w0 := w) w.heap.size rfl _ _ 23 3 (.int .i64 0) 1 8 rfl Tryd.underlying23 info3 rfl (by decide) (by decide) (.slice uA L.length uc) L.length (I64 (nats L)) #[.int .i64 (i : Int)] rfl rfl rfl (by simp [Value.oneCell']) ou hb hb.size (by omega) ?_; intro g cap w4 ow hb4 _ _)
      go_returns
      refine ⟨_, rfl, ?_, hb4⟩
      rw [E.out, nats_snoc', ← I64_snoc, List.length_append]
      exact ow
set_option maxRecDepth 100000 in
/-- least -/
theorem least_any (a b : Int) (w : World) :
    Calls Tryd.prog 13 #[.int .i64 a, .int .i64 b] w fun e w' => e = .returned (.int .i64 (min a b)) ∧ w = w' := by
  by_cases h : a < b
  · have H0 := Lib.hid (show min a b = a by omega)
    go_enter Tryd.func13, Tryd.ntmps13
    go_wp2
    go_returns
    exact ⟨by rw [H0.out]; rfl, rfl⟩
  · have H0 := Lib.hid (show min a b = b by omega)
    go_enter Tryd.func13, Tryd.ntmps13
    go_wp2
    go_returns
    exact ⟨by rw [H0.out]; rfl, rfl⟩
end Go.Proofs.YtlcgkdhcdldlfaaDoor
