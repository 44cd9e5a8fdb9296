import Derived.Test.YtobklhnechbpaaaREnc
namespace Go.Proofs.Ytobklhnechbpaaa
open Go.RowKit

theorem set_grown (W : World) (g i : Nat) (u : Value) : W.grownBy (W.setCell ⟨g, i, none⟩ u) (some g) :=
  ⟨rfl, rfl, rfl, by simp, fun k _ hk => Below.heap_setCell _ _ _ k (fun e => hk (by rw [e]))⟩
theorem drewN_grown (W : World) (n : Nat) (row : Option Nat) : W.grownBy (W.drewN n) row := ⟨rfl, rfl, rfl, Nat.le_refl _, fun _ _ _ => rfl⟩
/-- the cells of a list that is joined in place: what is made ahead, what is to come behind -/
structure Mid (w : World) (g cap : Nat) (l out : List Int) (k : Nat) (cur : Array Value) : Prop where
  blk : Blk w g cur 3
  size : cur.size = cap
  pre : ∀ (j : Nat) (h : j < out.length), cur[j]? = some (.int .i64 out[j])
  post : ∀ (j : Nat) (h : j < l.length), k ≤ j → cur[j]? = some (.int .i64 l[j])
theorem Mid.set {w : World} {g cap k : Nat} {l out : List Int} {cur : Array Value} (h : Mid w g cap l out k cur) (hlt : out.length ≤ k) (hk : k < cap) (x : Int) (k' : Nat) (hk' : k < k') :
    Mid (w.setCell ⟨g, out.length, none⟩ (.int .i64 x)) g cap l (out ++ [x]) k' (cur.setIfInBounds out.length (.int .i64 x)) := by
  have hs := h.size
  refine ⟨h.blk.set _ _, by simp [h.size], fun j hj => ?_, fun j hj hkj => ?_⟩
  · rw [Array.getElem?_setIfInBounds]
    split
    · rename_i e
      subst e
      rw [if_pos (by omega)]
      simp
    · rename_i e
      have hlt' : j < out.length := by simp at hj; omega
      rw [h.pre j hlt', List.getElem_append_left hlt']
  · rw [Array.getElem?_setIfInBounds_ne (by omega)]
    exact h.post j hj (by omega)

theorem Mid.weak {w : World} {g cap k : Nat} {l out : List Int} {x : Int} {cur : Array Value} (h : Mid w g cap l (out ++ [x]) k cur) : Mid w g cap l out k cur :=
  ⟨h.blk, h.size, fun j hj => by rw [h.pre j (by simp; omega), List.getElem_append_left hj], h.post⟩
theorem Mid.drewN {w : World} {g cap k n : Nat} {l out : List Int} {cur : Array Value} (h : Mid w g cap l out k cur) : Mid (w.drewN n) g cap l out k cur := ⟨h.blk, h.size, h.pre, h.post⟩

set_option maxRecDepth 100000 in
set_option maxHeartbeats 4000000 in
/-- bpe.join, in place -/
theorem join_any (base g n cap : Nat) (l : List Int) (pa pb t : Int) (w : World) (hl : l.length = n) (hb0 : n ≤ 8388608) (ho : w.ownsRow base 3 1 (.slice (some ⟨g, 0, none⟩) n cap) n (I64 l)) :
    Calls Try.prog 43 #[.slice (some ⟨g, 0, none⟩) n cap, .agg #[.int .i64 pa, .int .i64 pb], .int .i64 t] w fun e w' => e = .returned (.slice (some ⟨g, 0, none⟩) (joined (pa, pb) t l).length cap) ∧ w'.ownsRow base 3 1 (.slice (some ⟨g, 0, none⟩) (joined (pa, pb) t l).length cap) (joined (pa, pb) t l).length (I64 (joined (pa, pb) t l)) ∧ w.grownBy w' (some g) := by
  have q0 := Blk.new w #[.int .i64 pa, .int .i64 pb] 51
  have h0 : w.grownBy (w.alloc (.cells #[.int .i64 pa, .int .i64 pb] 51)) (some g) := World.grownBy_alloc w _ _
  have hjl := joined_len (pa, pb) t _ l (Nat.le_refl _)
  obtain ⟨g', cap', cur, he, hbg, hg, hnc, hcm, hcs, htk⟩ : ∃ g' cap' cur, Value.slice (some ⟨g, 0, none⟩) n cap = .slice (some ⟨g', 0, none⟩) n cap' ∧ base ≤ g' ∧ w.heap[g']? = some (.cells cur 3 (0, 0)) ∧ n ≤ cap' ∧ cap' ≤ maxLen ∧ cur.size = cap' * 1 ∧ cur.toList.take (n * 1) = I64 l := by
    rcases ho.2 with ⟨h, _⟩ | h
    · cases h
    · exact h
  cases he
  rw [Nat.mul_one] at hcs htk
  have m0 : Mid (w.alloc (.cells #[.int .i64 pa, .int .i64 pb] 51)) g cap l [] 0 cur := by
    refine ⟨Blk.alloc hg _, hcs, by intro j h; simp at h, fun j hj _ => ?_⟩
    have h1 : (cur.toList.take n)[j]? = some (.int .i64 l[j]) := by rw [htk]; simp [I64, hj]
    rw [List.getElem?_take_of_lt (by omega)] at h1
    simpa using h1
  have hgw : g < w.heap.size := (Array.getElem?_eq_some_iff.1 hg).1
  go_enter Try.func43, Try.ntmps43
  go_wp2
  generalize w.alloc (.cells #[.int .i64 pa, .int .i64 pb] 51) = w1 at *
  go_loopw [7, 8] (fun nv i wr => ∃ (k : Nat) (out : List Int) (cur : Array Value), k ≤ n ∧ nv = .int .i64 (out.length : Int) ∧ i = .int .i64 (k : Int) ∧ out ++ joined (pa, pb) t (l.drop k) = joined (pa, pb) t l ∧ out.length ≤ k ∧ Mid wr g cap l out k cur ∧ Blk wr w.heap.size #[.int .i64 pa, .int .i64 pb] 51 ∧ w.grownBy wr (some g)) (fun _ i _ => n - (intOf i).toNat)
  case atStart => exact ⟨0, [], cur, by omega, rfl, rfl, by simp, by simp, m0, q0, h0⟩
  case round =>
    clear m0 q0 h0
    obtain ⟨k, out, cur, hk, rfl, rfl, hj, hol, mm, q0, hb⟩ := hrel
    have HJ := Lib.hid hj
    clear hj
    by_cases hlt : k < n
    · have y1 : wr.cell? ⟨g, k, none⟩ = some (.int .i64 (l[k]'(by omega))) := by rw [mm.blk.cell, mm.post k (by omega) (Nat.le_refl _)]
      have hsz := mm.size
      obtain ⟨old, y0⟩ : ∃ old, wr.cell? ⟨g, out.length, none⟩ = some old := by rw [mm.blk.cell]; exact ⟨_, Array.getElem?_eq_getElem (by omega)⟩
      have yf := mm.blk.frozen out.length
      have ea : (⟨g, 0, none⟩ : Addr).add k = ⟨g, k, none⟩ := by simpa using addr_add g 0 k
      have ea1 : (⟨g, 0, none⟩ : Addr).add out.length = ⟨g, out.length, none⟩ := by simpa using addr_add g 0 out.length
      have hkn : (k : Int) < (n : Int) := by omega
      have hon : (out.length : Int) < (n : Int) := by omega
      have hon2 : out.length < n := by omega
      have hjn := fun h => joined_not (p := (pa, pb)) (t := t) (show k < l.length by omega) h
      have hja := fun h => joined_at (p := (pa, pb)) (t := t) (l := l) (i := k) h
      have hp2 := fun (h : k + 1 < l.length) => atP_of (p := (pa, pb)) (show k < l.length by omega) h
      have hpk := mm.post k (by omega) (Nat.le_refl _)
      generalize hX : l[k]'(by omega) = x at *
      have m2 := mm.set hol (by omega) x (k + 1) (by omega)
      have q2 := q0.other ⟨g, out.length, none⟩ (.int .i64 x) (by simp; omega)
      have hb2 := World.grownBy.trans hb (set_grown wr g out.length (.int .i64 x))
      have z1 : (wr.setCell ⟨g, out.length, none⟩ (.int .i64 x)).cell? ⟨g, k, none⟩ = some (.int .i64 x) := by
        rw [m2.blk.cell, Array.getElem?_setIfInBounds]
        split
        · rename_i e
          rw [if_pos (by omega)]
        · exact hpk
      go_wp2
      clear y1 y0 yf mm q0 hb
      generalize wr.setCell ⟨g, out.length, none⟩ (.int .i64 x) = W2 at *
      generalize cur.setIfInBounds out.length (.int .i64 x) = cur2 at *
      have x0 : W2.cell? ⟨w.heap.size, 0, none⟩ = some (.int .i64 pa) := q2.cell _
      have x1 : W2.cell? ⟨w.heap.size, 1, none⟩ = some (.int .i64 pb) := q2.cell _
      have f0 : W2.cell? ⟨g, out.length, none⟩ = some (.int .i64 x) := by rw [m2.blk.cell, m2.pre out.length (by simp)]; simp
      have f1 := m2.blk.frozen out.length
      have hb2' : 0 ≤ (k : Int) + 1 := by omega
      have hwk : IntKind.i64.wrap ((k : Int) + 1) = (k : Int) + 1 := IntWalk.i64_in _ (by omega)
      by_cases h2 : k + 1 < n
      · have z2 : W2.cell? ⟨g, k + 1, none⟩ = some (.int .i64 (l[k + 1]'(by omega))) := by rw [m2.blk.cell, m2.post (k + 1) (by omega) (Nat.le_refl _)]
        have ea2 : (⟨g, 0, none⟩ : Addr).add (k + 1) = ⟨g, k + 1, none⟩ := by simpa using addr_add g 0 (k + 1)
        have hb1 : (k : Int) + 1 < (n : Int) := by omega
        have hi1 : ((k : Int) + 1).toNat = k + 1 := by omega
        have hat := hp2 (by omega)
        generalize l[k + 1]'(by omega) = y at *
        clear hp2
        by_cases e1 : x = pa
        · by_cases e2 : y = pb
          · have hs := hja (by rw [hat]; simp [hX, e1, e2])
            have HS := Lib.hid hs
            clear hs hja hjn hat hX
            subst e1 e2
            go_wp2
            go_quiet (fail)
            all_goals go_wp2
            go_roundw
            case rel =>
              exact ⟨k + 2, out ++ [t], _, by omega, by simp, by go_num, by rw [← HJ.out, HS.out, List.append_assoc]; rfl, by simp; omega, m2.weak.drewN.set (by omega) (by omega) t (k + 2) (by omega), (Blk.drewN q2).other _ _ (by simp; omega), World.grownBy.trans (World.grownBy.trans hb2 (drewN_grown _ _ _)) (set_grown _ g out.length (.int .i64 t))⟩
            case measure => simp [intOf]; omega
          · have hs := hjn (by rw [hat]; simp [e2])
            have HS := Lib.hid hs
            have e2' : (y == pb) = false := by simpa using e2
            clear hs hja hjn hat hX
            subst e1
            go_wp2
            go_quiet (fail)
            all_goals go_wp2
            go_roundw
            case rel =>
              exact ⟨k + 1, out ++ [x], cur2, by omega, by simp, by go_num, by rw [← HJ.out, HS.out, List.append_assoc]; rfl, by simp; omega, m2.drewN, Blk.drewN q2, World.grownBy.trans hb2 (drewN_grown _ _ _)⟩
            case measure => simp [intOf]; omega
        · have hs := hjn (by rw [hat, hX]; simp [e1])
          have HS := Lib.hid hs
          have e1' : (x == pa) = false := by simpa using e1
          clear hs hja hjn hat hX
          go_wp2
          go_quiet (fail)
          all_goals go_wp2
          go_roundw
          case rel =>
            exact ⟨k + 1, out ++ [x], cur2, by omega, by simp, by go_num, by rw [← HJ.out, HS.out, List.append_assoc]; rfl, by simp; omega, m2.drewN, Blk.drewN q2, World.grownBy.trans hb2 (drewN_grown _ _ _)⟩
          case measure => simp [intOf]; omega
      · have hs := hjn (by unfold atP; rw [decide_eq_false_iff_not]; rintro ⟨_, h⟩; have := (List.getElem?_eq_some_iff.1 h).1; omega)
        have hb1 : decide ((k : Int) + 1 < (n : Int)) = false := by rw [decide_eq_false_iff_not]; omega
        have HS := Lib.hid hs
        clear hs hja hjn hX hp2
        go_wp2
        go_quiet (fail)
        all_goals go_wp2
        go_roundw
        case rel =>
          exact ⟨k + 1, out ++ [x], cur2, by omega, by simp, by go_num, by rw [← HJ.out, HS.out, List.append_assoc]; rfl, by simp; omega, m2.drewN, Blk.drewN q2, World.grownBy.trans hb2 (drewN_grown _ _ _)⟩
        case measure => simp [intOf]; omega
    · obtain rfl : n = k := by omega
      have hr : out = joined (pa, pb) t l := by
        have := HJ.out
        rw [List.drop_of_length_le (by omega)] at this
        simpa [joined] using this
      have HR := Lib.hid hr
      clear hr
      have hoc : (out.length : Int) ≤ (cap : Int) := by omega
      have hoc2 : out.length ≤ cap := by omega
      go_wp2
      go_returns
      refine ⟨by rw [← HR.out]; rfl, ?_, hb⟩
      rw [← HR.out]
      refine ⟨by simp [I64], .inr ⟨g, cap, cur, rfl, hbg, mm.blk, hoc2, hcm, by rw [mm.size, Nat.mul_one], ?_⟩⟩
      have hsz := mm.size
      apply List.ext_getElem
      · simp [I64]; omega
      · intro i h1 h2
        have h3 : i < out.length := by simpa [I64] using h2
        have := mm.pre i h3
        rw [Array.getElem?_eq_getElem (by omega)] at this
        simp [I64]
        exact Option.some.inj this
end Go.Proofs.Ytobklhnechbpaaa
