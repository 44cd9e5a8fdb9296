import Derived.Test.YtobklhnechbpaaaBokP
import Derived.Test.YtobklhnechbpaaaJoinR
namespace Go.Proofs.Ytobklhnechbpaaa
open Go.RowKit
theorem Rp.below {P : Nat → Prop} {w w' : World} {A : Option Addr} {vs : List Value} (h : Rp P w A vs) (hb : Below w.heap.size w w') : Rp P w' A vs :=
  h.kp (S := fun _ => False) (.of_below hb) (fun _ _ _ h => h)
set_option maxRecDepth 100000 in
set_option maxHeartbeats 4000000 in
/-- augurref05.Join -/
theorem joinR_rp (P : Nat → Prop) (A A' T : Option Addr) (n m t c c' ct : Nat) (bs : List Int) (ps : List (Int × Int)) (l : List Int) (w : World) (hv : Voc w A A' n m bs ps) (hn8 : n ≤ 48) (hm8 : m ≤ 64) (hP : ∀ b, w.heap.size ≤ b → P b) (hl : l.length = t) (ht : Rp P w T (I64 l)) (hs : t ≤ 8388608) :
    Calls Try.prog 32 #[.agg #[.slice A n c, .slice A' m c'], .slice T t ct] w fun e w' => ∃ A2 c2, e = .returned (.slice A2 (joinAll n ps l).length c2) ∧ Rp P w' A2 (I64 (joinAll n ps l)) ∧ Below w.heap.size w w' := by
  have h0 : Below w.heap.size w (w.alloc (.cells #[.slice A n c, .slice A' m c'] 25)) := by go_grown
  have q0 := Blk.new w #[.slice A n c, .slice A' m c'] 25
  have hm := hv.hm
  replace ht := ht.below h0
  go_enter Try.func32, Try.ntmps32
  go_wp2
  generalize w.alloc (.cells #[.slice A n c, .slice A' m c'] 25) = w1 at *
  go_loopw [1] (fun lv wr => ∃ (A2 : Option Addr) (n2 c2 : Nat) (l2 : List Int), lv = .slice A2 n2 c2 ∧ l2.length = n2 ∧ Rp P wr A2 (I64 l2) ∧ joinAll n ps l = joinAll n ps l2 ∧ n2 ≤ t ∧ Blk wr w.heap.size #[.slice A n c, .slice A' m c'] 25 ∧ Below w.heap.size w wr) (fun lv _ => lenV lv)
  case atStart => exact ⟨T, t, ct, l, rfl, hl, ht, rfl, Nat.le_refl _, q0, h0⟩
  case round =>
    clear q0 h0 ht
    obtain ⟨A2, n2, c2, l2, rfl, hl2, hr2, hja, hn2, q0, hb⟩ := hrel
    have HJ := Lib.hid hja
    clear hja
    obtain ⟨wo, hwo⟩ : ∃ wo, wo = wr := ⟨_, rfl⟩
    subst hwo
    go_wp2
    go_loopw [5, 6] (fun at_ j wr2 => ∃ k : Nat, k ≤ m ∧ j = .int .i64 (k : Int) ∧ ((at_ = .int .i64 (-1) ∧ ∀ i : Nat, i < k → ∀ p, ps[i]? = some p → stands l2 p = false) ∨
      (∃ q : Nat, at_ = .int .i64 (q : Int) ∧ k = q + 1 ∧ (∀ i : Nat, i < q → ∀ p, ps[i]? = some p → stands l2 p = false) ∧ ∃ p, ps[q]? = some p ∧ stands l2 p = true)) ∧ Below wo.heap.size wo wr2) (fun _ j _ => m - (intOf j).toNat)
    case atStart => exact ⟨0, by omega, rfl, .inl ⟨rfl, by intro i hi; omega⟩, Below.refl _ _⟩
    case round =>
      obtain ⟨k, hk, rfl, hcase, hb2⟩ := hrel
      have x0 : wr.cell? ⟨w.heap.size, 0, none⟩ = some (.slice A n c) := (q0.below hb2).cell _
      have x1 : wr.cell? ⟨w.heap.size, 1, none⟩ = some (.slice A' m c') := (q0.below hb2).cell _
      have hr3 := hr2.below hb2
      have hb3 := bthen hb hb2
      rcases hcase with ⟨rfl, hno⟩ | ⟨q, rfl, rfl, hno, p, hp, hst⟩
      · by_cases hlt : k < m
        · obtain ⟨b, o, rfl, y1, y2⟩ := (hv.below hb3).hy.pr k (by omega)
          have ea := addr_add b o (k * 2)
          have hget : ps[k]? = some (ps[k]'(by omega)) := List.getElem?_eq_getElem (by omega)
          generalize ps[k]'(by omega) = x at *
          obtain ⟨xa, xb⟩ := x
          simp only at y1 y2
          have HG := Lib.hid hget
          have NO := Lib.hid hno
          clear hget hno
          go_wp2_with fail
          refine (stands_any A2 n2 c2 l2 xa xb wr hl2 (by omega) hr3.rd).mono ?_
          rintro e w4 ⟨he, hb4⟩
          cases hq : stands l2 (xa, xb) with
          | true =>
            rw [hq] at he
            subst he
            have HQ := Lib.hid hq
            clear hq
            go_wp2
            go_roundw
            case rel => exact ⟨k + 1, by omega, by go_num, .inr ⟨k, rfl, rfl, NO.out, _, HG.out, HQ.out⟩, bthen hb2 hb4⟩
            case measure => simp [intOf]; omega
          | false =>
            rw [hq] at he
            subst he
            have HQ := Lib.hid hq
            clear hq
            go_wp2
            go_roundw
            case rel => exact ⟨k + 1, by omega, by go_num, .inl ⟨rfl, fun i hi p hp => by
              rcases Nat.lt_or_ge i k with h | h
              · exact NO.out i h p hp
              · obtain rfl : i = k := by omega
                rw [HG.out] at hp
                cases hp
                exact HQ.out⟩, bthen hb2 hb4⟩
            case measure => simp [intOf]; omega
        · have hr : joinAll n ps l = l2 := by
            rw [HJ.out, joinAll_none (findIdx_no (fun j hj => hno j (by omega)))]
          have HR := Lib.hid hr
          clear hr hno
          go_wp2
          go_returns
          exact ⟨A2, c2, by rw [HR.out, hl2]; rfl, by rw [HR.out]; exact hr3, hb3⟩
      · have hqm : q < m := by
          have := (List.getElem?_eq_some_iff.1 hp).1
          omega
        obtain ⟨b, o, rfl, y1, y2⟩ := (hv.below hb3).hy.pr q (by omega)
        have ea := addr_add b o (q * 2)
        have hget : ps[q]'(by omega) = p := by
          rw [List.getElem?_eq_getElem (by omega)] at hp
          exact Option.some.inj hp
        have hfi : ps.findIdx (stands l2) = q := findIdx_at (by omega) (by rw [hget]; exact hst) hno
        have hstep := joinAll_step (n := n) hfi (by omega)
        rw [hget] at hstep y1 y2
        obtain ⟨xa, xb⟩ := p
        simp only at y1 y2
        have hlt2 := joined_lt (xa, xb) ((1 + n + q : Nat) : Int) _ l2 (Nat.le_refl _) hst
        have HS := Lib.hid hstep
        clear hp hget hfi hstep hno hst
        have hcast : (n : Int) + 1 + (q : Int) = ((1 + n + q : Nat) : Int) := by omega
        have hq0 : (q : Int) < (m : Int) := by omega
        rw [← hcast] at hlt2
        have HC := Lib.hid hcast
        have hw1 : IntKind.i64.wrap ((n : Int) + 1) = (n : Int) + 1 := IntWalk.i64_in _ (by omega)
        have hw2 : IntKind.i64.wrap ((n : Int) + 1 + (q : Int)) = (n : Int) + 1 + (q : Int) := IntWalk.i64_in _ (by omega)
        clear hcast
        go_wp2
        all_goals
          go_region_held3 (fun w' => w'.cell? ⟨w.heap.size, 0, none⟩ = some (.slice A n c) ∧ w'.cell? ⟨w.heap.size, 1, none⟩ = some (.slice (some ⟨b, o, none⟩) m c') ∧ w'.cell? ⟨b, o + q * 2, none⟩ = some (.int .i64 xa) ∧ w'.cell? ⟨b, o + q * 2 + 1, none⟩ = some (.int .i64 xb))
            (first | exact ⟨‹_›, ‹_›, ‹_›, ‹_›⟩ | exact ‹_›)
            (first | (go_at_call 46; refine (joined_any A2 n2 c2 l2 xa xb ((n : Int) + 1 + (q : Int)) wr.drew hl2 (by omega) (Rd.below hr3.rd (Below.drew (Below.refl _ _)))).mono ?_; rintro e w5 ⟨v5, rfl, ov5, hb5⟩; have z0 : w5.cell? ⟨w.heap.size, 0, none⟩ = some (.slice A n c) := (Blk.below (Blk.drew (q0.below hb2)) hb5).cell _; have z1 : w5.cell? ⟨w.heap.size, 1, none⟩ = some (.slice (some ⟨b, o, none⟩) m c') := (Blk.below (Blk.drew (q0.below hb2)) hb5).cell _; have z2 : w5.cell? ⟨b, o + q * 2, none⟩ = some (.int .i64 xa) := (hb5.cell (p := ⟨b, o + q * 2, none⟩) (World.block_lt_of_cell? wr _ y1)).trans y1; have z3 : w5.cell? ⟨b, o + q * 2 + 1, none⟩ = some (.int .i64 xb) := (hb5.cell (p := ⟨b, o + q * 2 + 1, none⟩) (World.block_lt_of_cell? wr _ y2)).trans y2))
        all_goals
          obtain ⟨A5, c5, rfl, _, _⟩ := own_rd ov5
          have r5 := own_rp ov5 P (fun b hb => hP b (Nat.le_trans (show w.heap.size ≤ wr.drew.heap.size from (Below.drew hb3).size) (own_lt ov5 b hb).1))
          have q5 := Blk.below (Blk.drew (q0.below hb2)) hb5
          have hb6 := bthen (Below.drew hb3) hb5
          clear z0 z1 z2 z3
          generalize hjj : joined (xa, xb) ((n : Int) + 1 + (q : Int)) l2 = l3 at *
          have JJ := Lib.hid hjj
          clear hjj
          go_wp2
          go_roundw
          case rel => exact ⟨A5, l3.length, c5, l3, rfl, rfl, r5, by rw [HJ.out, HS.out, ← JJ.out, HC.out], by omega, q5, hb6⟩
          case measure => simp [lenV]; omega
end Go.Proofs.Ytobklhnechbpaaa
