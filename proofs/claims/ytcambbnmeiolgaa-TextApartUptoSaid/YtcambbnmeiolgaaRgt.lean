import Derived.Test.YtcambbnmeiolgaaNewP
namespace Go.Proofs.Ytcambbnmeiolgaa
open Go.RowKit
def rgt1 (n : Int) (may : Bool) (x : Int) : Int := if (if x.tmod n < 0 then x.tmod n + n else x.tmod n) = 0 ∧ may = false then 1 else if x.tmod n < 0 then x.tmod n + n else x.tmod n
/-- right -/
def rgt (n : Int) (l : List Int) (may : Bool) : List Int := if 1 < n then l.map (rgt1 n may) else []
theorem tmod_lt {n : Int} (h : 1 < n) (x : Int) : -n < x.tmod n ∧ x.tmod n < n := by
  have h1 := Int.tmod_lt_of_pos x (show 0 < n by omega)
  have h2 := Int.lt_tmod_of_pos x (show 0 < n by omega)
  exact ⟨h2, h1⟩
theorem rgt1_ok {n : Int} (h : 1 < n) (may : Bool) (x : Int) : 0 ≤ rgt1 n may x ∧ rgt1 n may x < n ∧ (may = false → 1 ≤ rgt1 n may x) := by
  have := tmod_lt h x
  unfold rgt1
  cases may
  · refine ⟨?_, ?_, fun _ => ?_⟩ <;> (repeat' split) <;> simp_all <;> omega
  · refine ⟨?_, ?_, fun h => by cases h⟩ <;> (repeat' split) <;> simp_all <;> omega

set_option maxRecDepth 100000 in
set_option maxHeartbeats 2000000 in
/-- right -/
theorem right_any (A A' L : Option Addr) (n m ln c c' lc : Nat) (bs : List Int) (ps : List (Int × Int)) (l : List Int) (may : Bool) (w : World) (hv : Voc w A A' n m bs ps) (hwf : Wf bs ps) (hl : l.length = ln) (hx : Rd w L (I64 l)) (hln : ln ≤ 2147483647) :
    Calls Try.prog 17 #[.agg #[.slice A n c, .slice A' m c'], .slice L ln lc, .bool may] w fun e w' => ∃ v, e = .returned v ∧ w'.ownsRow w.heap.size 3 1 v (rgt (toks bs ps).length l may).length (I64 (rgt (toks bs ps).length l may)) ∧ Below w.heap.size w w' := by
  have h0 : Below w.heap.size w (w.alloc (.cells #[.slice A n c, .slice A' m c'] 37)) := by go_grown
  have q0 := Blk.new w #[.slice A n c, .slice A' m c'] 37
  go_enter Try.func17, Try.ntmps17
  go_wp2_with fail
  refine (size_any A A' n m c c' bs ps _ (hv.below h0) hwf).mono ?_
  rintro e w1 ⟨rfl, hb⟩
  rw [szV_toks]
  replace hb := bthen h0 hb
  have hs1 := hb.size
  have HX := Lib.hid (hx.below hb)
  have T64 := toks_len bs ps
  clear q0 h0 hx
  obtain ⟨N, hN0⟩ : ∃ N, (toks bs ps).length = N := ⟨_, rfl⟩
  rw [hN0] at T64 ⊢
  have HN0 := Lib.hid hN0
  clear hN0
  go_wp2
  go_loopw [8, 9, 10] (fun mv i _ wr => ∃ k : Nat, k ≤ ln ∧ i = .int .i64 (k : Int) ∧ (k = 0 ∨ 1 < N) ∧ wr.ownsRow w1.heap.size 3 1 mv k (I64 ((l.take k).map (rgt1 N may))) ∧ Below w1.heap.size w1 wr) (fun _ i _ _ => ln - (intOf i).toNat)
  case atStart => exact ⟨0, by omega, rfl, .inl rfl, World.ownsRow_nil _ _ _ _, Below.refl _ _⟩
  case round =>
    obtain ⟨k, hk, rfl, hor, oo, hb2⟩ := hrel
    obtain ⟨Ao, co, rfl, _, _⟩ := own_rd oo
    have OR := Lib.hid hor
    clear hor
    by_cases hlt : k < ln
    · have g1 : (k : Int) < (ln : Int) := by omega
      by_cases hN : 1 < N
      · have g2 : (1 : Int) < (N : Int) := by omega
        obtain ⟨b, of, rfl, y0⟩ := (HX.out.below hb2).i64 k (by omega)
        have ea := addr_add b of k
        have TK := Lib.hid (List.take_succ_eq_append_getElem (show k < l.length by omega))
        generalize l[k]'(by omega) = x at *
        have hm := tmod_lt g2 x
        have g3 : (N : Int) ≠ 0 := by omega
        by_cases h1 : x.tmod N < 0
        · have h2 : ¬ x.tmod N + N = 0 := by omega
          have RX := Lib.hid (show rgt1 N may x = x.tmod N + N by unfold rgt1; (repeat' split) <;> simp_all <;> omega)
          skip
          go_wp2_with (at_builtin; refine app (w0 := w1) w1.heap.size rfl _ _ 39 3 (.int .i64 0) 1 8 rfl Try.underlying39 info3 rfl (by decide) (by decide) (.slice Ao k co) k (I64 ((l.take k).map (rgt1 N may))) #[.int .i64 (x.tmod N + N)] rfl rfl rfl (by simp [Value.oneCell']) oo hb2 hb2.size (by omega) ?_; intro g cap w3 ow hb3 hg3 hat)
          all_goals go_round
          case rel => exact ⟨k + 1, by omega, by go_num, .inr hN, by rw [TK.out, List.map_append, I64, List.map_append]; simp only [List.map_cons, List.map_nil]; rw [RX.out]; exact ow, hb3⟩
          case measure => simp [intOf]; omega
        · by_cases h2 : x.tmod N = 0
          · cases may with
            | true =>
              have RX := Lib.hid (show rgt1 N true x = 0 by unfold rgt1; (repeat' split) <;> simp_all <;> omega)
              skip
              go_wp2_with (at_builtin; refine app (w0 := w1) w1.heap.size rfl _ _ 39 3 (.int .i64 0) 1 8 rfl Try.underlying39 info3 rfl (by decide) (by decide) (.slice Ao k co) k (I64 ((l.take k).map (rgt1 N true))) #[.int .i64 0] rfl rfl rfl (by simp [Value.oneCell']) oo hb2 hb2.size (by omega) ?_; intro g cap w3 ow hb3 hg3 hat)
              all_goals go_round
              case rel => exact ⟨k + 1, by omega, by go_num, .inr hN, by rw [TK.out, List.map_append, I64, List.map_append]; simp only [List.map_cons, List.map_nil]; rw [RX.out]; exact ow, hb3⟩
              case measure => simp [intOf]; omega
            | false =>
              have RX := Lib.hid (show rgt1 N false x = 1 by unfold rgt1; (repeat' split) <;> simp_all <;> omega)
              skip
              go_wp2_with (at_builtin; refine app (w0 := w1) w1.heap.size rfl _ _ 39 3 (.int .i64 0) 1 8 rfl Try.underlying39 info3 rfl (by decide) (by decide) (.slice Ao k co) k (I64 ((l.take k).map (rgt1 N false))) #[.int .i64 (1)] rfl rfl rfl (by simp [Value.oneCell']) oo hb2 hb2.size (by omega) ?_; intro g cap w3 ow hb3 hg3 hat)
              all_goals go_round
              case rel => exact ⟨k + 1, by omega, by go_num, .inr hN, by rw [TK.out, List.map_append, I64, List.map_append]; simp only [List.map_cons, List.map_nil]; rw [RX.out]; exact ow, hb3⟩
              case measure => simp [intOf]; omega
          · skip
            have RX := Lib.hid (show rgt1 N may x = x.tmod N by unfold rgt1; (repeat' split) <;> simp_all <;> omega)
            skip
            go_wp2_with (at_builtin; refine app (w0 := w1) w1.heap.size rfl _ _ 39 3 (.int .i64 0) 1 8 rfl Try.underlying39 info3 rfl (by decide) (by decide) (.slice Ao k co) k (I64 ((l.take k).map (rgt1 N may))) #[.int .i64 (x.tmod N)] rfl rfl rfl (by simp [Value.oneCell']) oo hb2 hb2.size (by omega) ?_; intro g cap w3 ow hb3 hg3 hat)
            all_goals go_round
            case rel => exact ⟨k + 1, by omega, by go_num, .inr hN, by rw [TK.out, List.map_append, I64, List.map_append]; simp only [List.map_cons, List.map_nil]; rw [RX.out]; exact ow, hb3⟩
            case measure => simp [intOf]; omega
      · have g2 : ¬ (1 : Int) < (N : Int) := by omega
        have hr : rgt N l may = [] := by unfold rgt; rw [if_neg g2]
        have HR := Lib.hid hr
        have k0 : k = 0 := by rcases OR.out with h | h; exact h; omega
        subst k0
        clear hr
        go_wp2
        go_returns
        refine ⟨_, rfl, ?_, bthen hb hb2⟩
        rw [HN0.out, HR.out]
        exact own_base oo hs1
    · obtain rfl : k = ln := by omega
      have hr : rgt N l may = (l.take k).map (rgt1 N may) := by
        unfold rgt
        rw [List.take_of_length_le (by omega)]
        split
        · rfl
        · rcases OR.out with h | h
          · subst h
            rw [List.length_eq_zero_iff.1 hl]; rfl
          · omega
      have HR := Lib.hid hr
      clear hr
      go_wp2
      go_returns
      refine ⟨_, rfl, ?_, bthen hb hb2⟩
      rw [HN0.out, HR.out]
      have : ((l.take k).map (rgt1 N may)).length = k := by rw [List.length_map, List.length_take]; omega
      rw [this]
      exact own_base oo hs1
end Go.Proofs.Ytcambbnmeiolgaa
