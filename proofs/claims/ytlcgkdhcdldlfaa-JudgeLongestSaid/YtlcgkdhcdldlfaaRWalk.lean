import Derived.Test.YtlcgkdhcdldlfaaWay
import Derived.Test.YtlcgkdhcdldlfaaStill
import Derived.Test.YtlcgkdhcdldlfaaRChk
namespace Go.Proofs.Ytlcgkdhcdldlfaa
open Go.RowKit

/-- a child's place; -1: there is none -/
def kidI (t : List Nd) (a : Nat) (x : Int) : Int := match kid t a x with | none => -1 | some k => (k : Int)

set_option maxRecDepth 100000 in
set_option maxHeartbeats 1000000 in
/-- augurref16.child -/
theorem child_any (A : Option Addr) (n c a : Nat) (x : Int) (t : List Nd) (w : World) (hl : t.length = n) (hm : n * 24 ≤ 140737488351232) (hx : Rd w A (NC t)) :
    Calls Try.prog 34 #[.slice A n c, .int .i64 (a : Int), .int .i64 x] w fun e w' => e = .returned (.int .i64 (kidI t a x)) ∧ Below w.heap.size w w' := by
  go_enter Try.func34, Try.ntmps34
  go_wp2
  go_loopw [7] (fun i wr => ∃ k : Nat, k ≤ n ∧ i = .int .i64 k ∧ (∀ j, j < k → ¬ isKid t a x j) ∧ Below w.heap.size w wr) (fun i _ => n - (intOf i).toNat)
  case atStart => exact ⟨0, by omega, rfl, by omega, Below.refl _ _⟩
  case round =>
    obtain ⟨k, hk, rfl, hno, hb⟩ := hrel
    have NO := Lib.hid hno
    clear hno
    by_cases hlt : k < n
    · obtain ⟨b, o, rfl, u0, u1, u2⟩ := (hx.below hb).nd k (by omega)
      have ea := addr_add b o (k * 3)
      have ea1 := addr_add b (o + k * 3) 1
      have nx : ¬ isKid t a x k → ∀ j, j < k + 1 → ¬ isKid t a x j := fun h j hj => by
        rcases Nat.lt_or_ge j k with h2 | h2
        · exact NO.out j h2
        · obtain rfl : j = k := by omega
          exact h
      by_cases e1 : par t k = (a : Int)
      · by_cases e2 : tk t k = x
        · have H0 := Lib.hid (show kidI t a x = (k : Int) by unfold kidI; rw [kid_some.2 ⟨by omega, ⟨e1, e2⟩, NO.out⟩])
          rw [e1] at u0
          rw [e2] at u1
          clear nx e1 e2
          go_wp2
          go_returns
          exact ⟨by rw [H0.out]; rfl, hb⟩
        · have NX := Lib.hid (nx (fun h => e2 h.2))
          rw [e1] at u0
          clear nx e1
          generalize tk t k = Y at *
          have hne : (Y == x) = false := by simpa using e2
          clear e2
          go_wp2
          go_roundw
          case rel => exact ⟨k + 1, by omega, by go_num, NX.out, hb⟩
          case measure => simp [intOf]; omega
      · have NX := Lib.hid (nx (fun h => e1 h.1))
        clear nx
        generalize par t k = Y at *
        have hne : (Y == (a : Int)) = false := by simpa using e1
        clear e1
        go_wp2
        go_roundw
        case rel => exact ⟨k + 1, by omega, by go_num, NX.out, hb⟩
        case measure => simp [intOf]; omega
    · have H0 := Lib.hid (show kidI t a x = -1 by unfold kidI; rw [kid_none.2 (fun j hj => NO.out j (by omega))])
      go_wp2
      go_returns
      exact ⟨by rw [H0.out]; rfl, hb⟩

/-- what Walk hands back -/
def WalkOut (w : World) (t : List Nd) (ch : List Int) (e : Ending) (w' : World) : Prop :=
  ∃ v, e = .returned (.tuple #[v, .int .i64 (walkN t ch), .int .i64 (walkE t ch)]) ∧ w'.ownsRow w.heap.size 3 1 v (walkL t ch).length (I64 (walkL t ch)) ∧ Below w.heap.size w w'
theorem walk_bad {t : List Nd} {ch : List Int} (h : ¬ isT t) : walkL t ch = [] ∧ walkN t ch = 0 ∧ walkE t ch = 140 := by
  have : ¬ okW t ch := fun k => h k.1
  exact ⟨if_neg this, if_neg this, if_neg h⟩
theorem walk_long {t : List Nd} {ch : List Int} (h : isT t) (h' : ch.length ≠ t.length) : walkL t ch = [] ∧ walkN t ch = 0 ∧ walkE t ch = 160 := by
  have : ¬ okW t ch := fun k => h' k.2
  refine ⟨if_neg this, if_neg this, ?_⟩
  unfold walkE
  rw [if_pos h, if_neg h']
theorem walk_ok {t : List Nd} {ch : List Int} {pre : List Nat} {a f : Nat} (h : isT t) (h' : ch.length = t.length) (g : Going t ch pre a f) (k : kid t a (chv ch a) = none) : walkL t ch = nats (pre ++ [a]) ∧ walkN t ch = chv ch a ∧ walkE t ch = 0 := by
  have : okW t ch := ⟨h, h'⟩
  refine ⟨?_, ?_, ?_⟩
  · unfold walkL
    rw [if_pos this, g.stop k]
  · unfold walkN
    rw [if_pos this, g.stop k]
    simp [lastW]
  · unfold walkE
    rw [if_pos h, if_pos h']
theorem nats_snoc (l : List Nat) (a : Nat) : nats (l ++ [a]) = nats l ++ [(a : Int)] := by simp [nats]

set_option maxRecDepth 100000 in
set_option maxHeartbeats 2000000 in
/-- augurref16.Walk -/
theorem refWalk_any (A B : Option Addr) (n c m d : Nat) (t : List Nd) (ch : List Int) (w : World) (hl : t.length = n) (hm : n * 24 ≤ 140737488351232) (hx : Rd w A (NC t)) (hl2 : ch.length = m) (hm2 : m * 8 ≤ 140737488351232) (hy : Rd w B (I64 ch)) :
    Calls Try.prog 13 #[.slice A n c, .slice B m d] w (WalkOut w t ch) := by
  go_enter Try.func13, Try.ntmps13
  go_wp2_with fail
  refine (refCheck_any A n c t w hl (by omega) hx).mono ?_
  rintro e w1 ⟨rfl, hb⟩
  by_cases hT : isT t
  · rw [errT_ok hT]
    by_cases hmn : m = n
    · subst hmn
      go_wp2
      have r1 : (w1.alloc (.cells #[.int .i64 0] 3)).ownsRow w.heap.size 3 1 (.slice (some ⟨w1.heap.size, 0, none⟩) 1 1) 1 (I64 (nats ([] ++ [0]))) := World.ownsRow_lit (base := w.heap.size) (e := 3) (size := 1) w1 #[.int .i64 0] 1 hb.size (by unfold maxLen; omega) rfl
      have hb1 := hb.alloc hb.size (.cells #[.int .i64 0] 3)
      generalize w1.alloc (.cells #[.int .i64 0] 3) = w2 at *
      generalize w1.heap.size = G at *
      have n0 : 0 < m := by have := hT.1; omega
      go_loopw [8, 9, 10] (fun v i _ wr => ∃ (a f : Nat) (pre : List Nat), Going t ch pre a f ∧ i = .int .i64 (a : Int) ∧ wr.ownsRow w.heap.size 3 1 v (pre.length + 1) (I64 (nats (pre ++ [a]))) ∧ Below w.heap.size w wr) (fun _ i _ _ => m - (intOf i).toNat)
      case atStart => exact ⟨0, t.length, [], Going.start (by omega), rfl, r1, hb1⟩
      case round =>
        clear r1 hb1 hb
        obtain ⟨a, f, pre, g, rfl, ho, hb⟩ := hrel
        obtain ⟨va, vc, rfl, _, _⟩ := own_rd ho
        have halt := g.lt
        have hpre := g.len
        have hTl := hT.2.1
        obtain ⟨b, o, rfl, y0⟩ := (hy.below hb).i64 a (by omega)
        have eb := addr_add b o a
        rw [chv_get ch a (by omega)] at y0
        have hai : (a : Int) < (m : Int) := by omega
        have GG := Lib.hid g
        have TT := Lib.hid hT
        clear g hT
        go_wp2_with fail
        refine (child_any A m c a (chv ch a) t wr hl (by omega) (hx.below hb)).mono ?_
        rintro e w3 ⟨rfl, hb3⟩
        have y1 : w3.cell? ⟨b, o + a, none⟩ = some (.int .i64 (chv ch a)) := (hb3.cell (p := ⟨b, o + a, none⟩) (World.block_lt_of_cell? wr _ y0)).trans y0
        have ho3 := own_below ho hb3
        have hb4 := bthen hb hb3
        clear y0 ho hb hb3
        cases hk : kid t a (chv ch a) with
        | none =>
          have e1 : kidI t a (chv ch a) = -1 := by unfold kidI; rw [hk]
          have W := Lib.hid (walk_ok TT.out (by omega) GG.out hk)
          rw [e1]
          clear hk e1
          generalize chv ch a = z at *
          go_wp2
          go_quiet (fail)
          all_goals go_wp2
          go_returns
          exact ⟨_, by rw [W.out.2.1, W.out.2.2]; rfl, by rw [W.out.1, nats_length, List.length_append, List.length_singleton]; exact ho3, bdraw hb4 _⟩
        | some k =>
          have e1 : kidI t a (chv ch a) = (k : Int) := by unfold kidI; rw [hk]
          have hak := kid_above TT.out hk
          obtain ⟨f', g'⟩ := GG.out.step TT.out hk
          have G2 := Lib.hid g'
          rw [e1]
          clear hk e1 g'
          generalize chv ch a = z at *
          go_wp2_with (at_builtin; refine app (w0 := w) w.heap.size rfl _ _ 23 3 (.int .i64 0) 1 8 rfl Try.underlying23 info3 rfl (by decide) (by decide) (.slice va (pre.length + 1) vc) (pre.length + 1) (I64 (nats (pre ++ [a]))) #[.int .i64 (k : Int)] rfl rfl rfl (by simp [Value.oneCell']) ho3 hb4 hb4.size (by omega) ?_; intro g2 cap w5 ow hb5 hg5 hat5)
          go_roundw
          case rel =>
            refine ⟨k, f', pre ++ [a], G2.out, rfl, ?_, hb5⟩
            rw [List.length_append, List.length_singleton, nats_snoc, ← I64_snoc]
            exact ow
          case measure => simp [intOf]; omega
    · have W := Lib.hid (walk_long (ch := ch) hT (by omega))
      have hne : ((m : Int) != (n : Int)) = true := by simp; omega
      clear hT
      go_wp2
      go_returns
      exact ⟨.slice none 0 0, by rw [W.out.2.1, W.out.2.2]; rfl, by rw [W.out.1]; exact World.ownsRow_nil _ _ _ _, hb⟩
  · have W := Lib.hid (walk_bad (ch := ch) hT)
    rw [errT_bad hT]
    clear hT
    go_wp2
    go_returns
    exact ⟨.slice none 0 0, by rw [W.out.2.1, W.out.2.2]; rfl, by rw [W.out.1]; exact World.ownsRow_nil _ _ _ _, hb⟩
end Go.Proofs.Ytlcgkdhcdldlfaa
