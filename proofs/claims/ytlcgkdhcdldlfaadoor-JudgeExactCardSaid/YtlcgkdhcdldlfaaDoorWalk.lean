import Derived.Test.YtlcgkdhcdldlfaaDoorRWalk
import Derived.Test.YtlcgkdhcdldlfaaDoorChk
import Derived.WalkMore
import Derived.Deep.LoopGhost
namespace Go.Proofs.YtlcgkdhcdldlfaaDoor
open Go.RowKit

set_option maxRecDepth 100000 in
set_option maxHeartbeats 2000000 in
/-- judge.Walk -/
theorem walk_any (A B : Option Addr) (n c m d : Nat) (t : List Nd) (ch : List Int) (w : World) (hl : t.length = n) (hm : n * 24 ≤ 140737488351232) (hx : Rd w A (NC t)) (hwf : WfN t) (hl2 : ch.length = m) (hm2 : m * 8 ≤ 140737488351232) (hy : Rd w B (I64 ch)) :
    Calls Tryd.prog 9 #[.slice A n c, .slice B m d] w (WalkOut w t ch) := by
  go_enter Tryd.func9, Tryd.ntmps9
  go_wp2
  go_step3
  go_wp2_with fail
  refine (check_any A n c t w hl (by omega) hx hwf).mono ?_
  rintro e w1 ⟨rfl, hb⟩
  by_cases hT : isT t
  · rw [errT_ok hT]
    by_cases hmn : m = n
    · subst hmn
      go_wp2
      have r1 : (w1.alloc (.cells #[.int .i64 0] 3)).ownsRow w.heap.size 3 1 (.slice (some ⟨w1.heap.size, 0, none⟩) 1 1) 1 (I64 (nats ([] ++ [0]))) := World.ownsRow_lit (base := w.heap.size) (e := 3) (size := 1) w1 #[.int .i64 0] 1 hb.size (by unfold maxLen; omega) rfl
      have hb1 := hb.alloc hb.size (.cells #[.int .i64 0] 3)
      generalize w1.alloc (.cells #[.int .i64 0] 3) = w2 at *
      generalize w1.heap.size = G at *
      have n0 : 0 < m := by have := hT.1; omega
      go_step3
      go_wp2
      go_loopg [4, 8, 9] m (fun gk v i _ wr => ∃ (a f : Nat) (pre : List Nat), a + gk = m ∧ Going t ch pre a f ∧ i = .int .i64 (a : Int) ∧ wr.ownsRow w.heap.size 3 1 v (pre.length + 1) (I64 (nats (pre ++ [a]))) ∧ Below w.heap.size w wr)
      case atStart => exact ⟨0, t.length, [], by omega, Going.start (by omega), rfl, r1, hb1⟩
      case round =>
        clear r1 hb1 hb
        obtain ⟨a, f, pre, hag, g, rfl, ho, hb⟩ := hrel
        obtain ⟨va, vc, rfl, _, _⟩ := own_rd ho
        have halt := g.lt
        have hpre := g.len
        have hTl := hT.2.1
        have hai : (a : Int) < (m : Int) := by omega
        have GG := Lib.hid g
        have TT := Lib.hid hT
        have hz : ch[a]'(by omega) = chv ch a := chv_get ch a (by omega)
        have CZ := Lib.hid (rfl : chv ch a = chv ch a)
        have hy2 : ∀ u, Below w.heap.size w u → ∃ b o, B = some ⟨b, o, none⟩ ∧ u.cell? ⟨b, o + a, none⟩ = some (.int .i64 (chv ch a)) := fun u hu => by
          obtain ⟨b, o, e, y0⟩ := (hy.below hu).i64 a (by omega)
          exact ⟨b, o, e, by rw [y0, hz]⟩
        have HY := Lib.hid hy2
        have NK := Lib.hid (fun (q : Nat) (h : q ≤ a) => noKid hT (chv ch a) (show q < t.length by omega) h)
        have WK := Lib.hid (fun h => walk_ok hT (ch := ch) (by omega) g h)
        have ST := Lib.hid (fun (k : Nat) (h : kid t a (chv ch a) = some k) => g.step hT h)
        clear g hT hz hy2 CZ
        generalize chv ch a = z at *
        generalize wr.heap.size = N at *
        go_wp2
        go_loopg [4, 8, 9] (m - a) (fun g2 v4 v8 jv wy => ∃ j : Nat, v4 = .slice va (pre.length + 1) vc ∧ v8 = .int .i64 (a : Int) ∧ a < j ∧ j ≤ m ∧ j + g2 = m + 1 ∧ jv = .int .i64 (j : Int) ∧ (∀ q, q < j → ¬ isKid t a z q) ∧ wy.ownsRow w.heap.size 3 1 (.slice va (pre.length + 1) vc) (pre.length + 1) (I64 (nats (pre ++ [a]))) ∧ Below w.heap.size w wy)
        case atStart => exact ⟨a + 1, rfl, rfl, by omega, by omega, by omega, rfl, fun q hq => NK.out q (by omega), ho, hb⟩
        case round =>
          clear ho hb
          obtain ⟨j, rfl, rfl, haj, hjm, hjg, rfl, hno, ho, hb⟩ := hrel
          obtain ⟨bb, oo, rfl, y0⟩ := HY.out _ hb
          have eb := addr_add bb oo a
          have NO := Lib.hid hno
          clear hno
          by_cases hlt : j < m
          · obtain ⟨b, o, rfl, u0, u1, u2⟩ := (hx.below hb).nd j (by omega)
            have ea := addr_add b o (j * 3)
            have ea1 := addr_add b (o + j * 3) 1
            have hj3 : (j : Int) < (m : Int) := by omega
            have nx : ¬ isKid t a z j → ∀ q, q < j + 1 → ¬ isKid t a z q := fun h q hq => by
              rcases Nat.lt_or_ge q j with h2 | h2
              · exact NO.out q h2
              · obtain rfl : q = j := by omega
                exact h
            by_cases e1 : par t j = (a : Int)
            · by_cases e2 : tk t j = z
              · have hk : kid t a z = some j := kid_some.2 ⟨by omega, ⟨e1, e2⟩, NO.out⟩
                obtain ⟨f', g'⟩ := ST.out j hk
                have G2 := Lib.hid g'
                rw [e1] at u0
                rw [e2] at u1
                clear nx e1 e2 hk g'
                go_wp2
                go_quiet (fail)
                have ho2 : (wr.drewN nq).ownsRow w.heap.size 3 1 (.slice va (pre.length + 1) vc) (pre.length + 1) (I64 (nats (pre ++ [a]))) := ho
                have hb2 := bdraw hb nq
                clear ho hb u0 u1 u2 y0
                generalize wr.drewN nq = w3 at *
                go_wp2_with (at_builtin; refine app (w0 := w) w.heap.size rfl _ _ 23 3 (.int .i64 0) 1 8 rfl Tryd.underlying23 info3 rfl (by decide) (by decide) (.slice va (pre.length + 1) vc) (pre.length + 1) (I64 (nats (pre ++ [a]))) #[.int .i64 (j : Int)] rfl rfl rfl (by simp [Value.oneCell']) ho2 hb2 hb2.size (by omega) ?_; intro g2 cap w5 ow hb5 hg5 hat5)
                go_roundg (m - j)
                case rel =>
                  refine ⟨j, f', pre ++ [a], by omega, G2.out, rfl, ?_, hb5⟩
                  rw [List.length_append, List.length_singleton, nats_snoc, ← I64_snoc]
                  exact ow
                case measure => omega
              · have NX := Lib.hid (nx (fun h => e2 h.2))
                rw [e1] at u0
                clear nx e1
                generalize tk t j = Y at *
                have hne : (Y == z) = false := by simpa using e2
                clear e2
                go_wp2
                go_quiet (fail)
                all_goals go_wp2
                go_roundg (m - j)
                case rel => exact ⟨j + 1, rfl, rfl, by omega, by omega, by omega, by go_num, NX.out, ho, bdraw hb _⟩
                case measure => omega
            · have NX := Lib.hid (nx (fun h => e1 h.1))
              clear nx
              generalize par t j = Y at *
              have hne : (Y == (a : Int)) = false := by simpa using e1
              clear e1
              go_wp2
              go_quiet (fail)
              all_goals go_wp2
              go_roundg (m - j)
              case rel => exact ⟨j + 1, rfl, rfl, by omega, by omega, by omega, by go_num, NX.out, ho, bdraw hb _⟩
              case measure => omega
          · have W := Lib.hid (WK.out (kid_none.2 (fun q hq => NO.out q (by omega))))
            go_wp2
            go_quiet (fail)
            all_goals go_wp2
            try rw [Exit.noGoto_ret]
            go_returns
            exact ⟨_, by rw [W.out.2.1, W.out.2.2]; rfl, by rw [W.out.1, nats_length, List.length_append, List.length_singleton]; exact ho, bdraw hb _⟩
    · have W := Lib.hid (walk_long (ch := ch) hT (by omega))
      have hne : ((m : Int) != (n : Int)) = true := by simp; omega
      clear hT
      go_wp2
      go_returns
      exact ⟨.slice none 0 0, by rw [W.out.2.1, W.out.2.2]; rfl, by rw [W.out.1]; exact World.ownsRow_nil _ _ _ _, hb⟩
  · have W := Lib.hid (walk_bad (ch := ch) hT)
    rw [errT_bad hT]
    clear hT
    go_wp2
    go_returns
    exact ⟨.slice none 0 0, by rw [W.out.2.1, W.out.2.2]; rfl, by rw [W.out.1]; exact World.ownsRow_nil _ _ _ _, hb⟩
end Go.Proofs.YtlcgkdhcdldlfaaDoor
