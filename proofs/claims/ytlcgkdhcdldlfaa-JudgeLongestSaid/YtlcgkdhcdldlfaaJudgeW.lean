import Derived.Test.YtlcgkdhcdldlfaaWorks
namespace Go.Proofs.Ytlcgkdhcdldlfaa
open Go.RowKit

theorem wayT_len (t : List Nd) (ch : List Int) : ∀ (f a : Nat), (wayT t ch f a).length ≤ f + 1 := by
  intro f
  induction f with
  | zero => intro a; simp [wayT]
  | succ f ih =>
    intro a
    simp only [wayT]
    split
    · simp
    · rename_i k _
      have := ih k
      simp only [List.length_cons]
      omega
theorem walkL_len (t : List Nd) (ch : List Int) : (walkL t ch).length ≤ t.length + 1 := by
  unfold walkL
  split
  · rw [nats_length]
    exact wayT_len t ch _ _
  · simp
theorem takeL_len (t : List Nd) (way : List Int) (next most : Int) : (takeL t way next most).length ≤ way.length := by
  unfold takeL
  split
  · rename_i h
    have h1 := takeFull_length (t := t) (next := next) h.2.1.1
    unfold cutL
    split
    · omega
    · rw [List.length_take]; omega
  · simp
theorem planL_len (way slots to : List Int) : (planL way slots to).length ≤ way.length := by
  unfold planL
  split
  · exact mvs_len _ _ _ _
  · simp

set_option maxRecDepth 100000 in
set_option maxHeartbeats 2000000 in
/-- JudgeWalks -/
theorem judgeWalks_any (A B : Option Addr) (n c m d : Nat) (t : List Nd) (ch : List Int) (w : World) (hl : t.length = n) (hm : n * 24 ≤ 140737488351232) (hx : Rd w A (NC t)) (hwf : WfN t) (hl2 : ch.length = m) (hm2 : m * 8 ≤ 140737488351232) (hy : Rd w B (I64 ch)) :
    Calls Try.prog 3 #[.slice A n c, .slice B m d] w fun e w' => e = .returned (.bool true) ∧ Below w.heap.size w w' := by
  go_enter Try.func3, Try.ntmps3
  go_wp2_with fail
  refine (works_any w).mono ?_
  rintro e w1 ⟨rfl, hb1⟩
  go_wp2_with fail
  refine (markedNodes_any A n c t w1 hl hm (hx.below hb1)).mono ?_
  rintro e w2 ⟨g, rfl, r1, _, hb⟩
  replace hb1 := bthen hb1 hb
  clear hb
  go_wp2_with fail
  refine (marked_any B m d ch w2 hl2 hm2 (hy.below hb1)).mono ?_
  rintro e w3 ⟨h, rfl, r2, _, hb⟩
  replace hb1 := bthen hb1 hb
  replace r1 := r1.below hb
  clear hb
  go_wp2_with fail
  refine (walk_any _ _ n (n + 64) m (m + 64) t ch w3 hl hm (mkdN_full t w3 g r1) hwf hl2 hm2 (mkd_full ch w3 h r2)).mono ?_
  rintro e w4 ⟨v, rfl, o1, hb⟩
  obtain ⟨va, vc, rfl, _, _⟩ := own_rd o1
  have q1 := own_rdA o1
  replace hb1 := bthen hb1 hb
  replace r1 := r1.below hb
  replace r2 := r2.below hb
  clear hb o1
  go_wp2_with fail
  refine (refWalk_any A B n c m d t ch w4 hl hm (hx.below hb1) hl2 hm2 (hy.below hb1)).mono ?_
  rintro e w5 ⟨v, rfl, o1, hb⟩
  obtain ⟨ua, uc, rfl, _, _⟩ := own_rd o1
  have q2 := own_rdA o1
  replace hb1 := bthen hb1 hb
  replace q1 := q1.below hb
  replace r1 := r1.below hb
  replace r2 := r2.below hb
  clear hb o1
  have hlen := walkL_len t ch
  generalize walkL t ch = L at *
  generalize walkN t ch = N at *
  generalize walkE t ch = E at *
  go_wp2_with fail
  refine (eqInts_any _ _ L.length L.length _ _ L L rfl rfl (by omega) w5 q1 q2).mono ?_
  rintro e w6 ⟨rfl, hb⟩
  rw [decide_eq_true rfl]
  replace hb1 := bthen hb1 hb
  replace r1 := r1.below hb
  replace r2 := r2.below hb
  clear hb q1 q2
  go_wp2_with fail
  refine (stillNodes_any A g n c t w6 hl hm r1 (hx.below hb1)).mono ?_
  rintro e w7 ⟨rfl, hb⟩
  replace hb1 := bthen hb1 hb
  replace r2 := r2.below hb
  clear hb
  go_wp2_with fail
  refine (still_any B h m d ch w7 hl2 hm2 r2 (hy.below hb1)).mono ?_
  rintro e w8 ⟨rfl, hb⟩
  replace hb1 := bthen hb1 hb
  clear hb
  go_wp2
  go_returns
  exact ⟨rfl, hb1⟩

set_option maxRecDepth 100000 in
set_option maxHeartbeats 2000000 in
/-- JudgeTakes -/
theorem judgeTakes_any (A B : Option Addr) (n c m d : Nat) (t : List Nd) (ch : List Int) (next most : Int) (w : World) (hl : t.length = n) (hm : n * 24 ≤ 140737488351232) (hx : Rd w A (NC t)) (hwf : WfN t) (hl2 : ch.length = m) (hm2 : m * 8 ≤ 140737488351232) (hy : Rd w B (I64 ch)) :
    Calls Try.prog 4 #[.slice A n c, .slice B m d, .int .i64 next, .int .i64 most] w fun e w' => e = .returned (.bool true) ∧ Below w.heap.size w w' := by
  go_enter Try.func4, Try.ntmps4
  go_wp2_with fail
  refine (works_any w).mono ?_
  rintro e w1 ⟨rfl, hb1⟩
  go_wp2_with fail
  refine (markedNodes_any A n c t w1 hl hm (hx.below hb1)).mono ?_
  rintro e w2 ⟨g, rfl, r1, _, hb⟩
  replace hb1 := bthen hb1 hb
  clear hb
  go_wp2_with fail
  refine (marked_any B m d ch w2 hl2 hm2 (hy.below hb1)).mono ?_
  rintro e w3 ⟨h, rfl, r2, _, hb⟩
  replace hb1 := bthen hb1 hb
  replace r1 := r1.below hb
  clear hb
  go_wp2_with fail
  refine (take_any _ _ n (n + 64) m (m + 64) t ch next most w3 hl hm (mkdN_full t w3 g r1) hwf hl2 hm2 (by omega) (mkd_full ch w3 h r2)).mono ?_
  rintro e w4 ⟨va, vc, rfl, o1, hb⟩
  have q1 := o1.rd
  replace hb1 := bthen hb1 hb
  replace r1 := r1.below hb
  replace r2 := r2.below hb
  clear hb o1
  go_wp2_with fail
  refine (refTake_any A B n c m d t ch next most w4 hl hm (hx.below hb1) hl2 hm2 (hy.below hb1)).mono ?_
  rintro e w5 ⟨ua, uc, rfl, o1, hb⟩
  have q2 := o1.rd
  replace hb1 := bthen hb1 hb
  replace q1 := q1.below hb
  replace r1 := r1.below hb
  replace r2 := r2.below hb
  clear hb o1
  have hlen := takeL_len t ch next most
  generalize takeL t ch next most = L at *
  generalize takeO t ch next most = N at *
  generalize takeE t ch most = E at *
  go_wp2_with fail
  refine (eqInts_any _ _ L.length L.length _ _ L L rfl rfl (by omega) w5 q1 q2).mono ?_
  rintro e w6 ⟨rfl, hb⟩
  rw [decide_eq_true rfl]
  replace hb1 := bthen hb1 hb
  replace r1 := r1.below hb
  replace r2 := r2.below hb
  clear hb q1 q2
  go_wp2_with fail
  refine (stillNodes_any A g n c t w6 hl hm r1 (hx.below hb1)).mono ?_
  rintro e w7 ⟨rfl, hb⟩
  replace hb1 := bthen hb1 hb
  replace r2 := r2.below hb
  clear hb
  go_wp2_with fail
  refine (still_any B h m d ch w7 hl2 hm2 r2 (hy.below hb1)).mono ?_
  rintro e w8 ⟨rfl, hb⟩
  replace hb1 := bthen hb1 hb
  clear hb
  go_wp2
  go_returns
  exact ⟨rfl, hb1⟩

set_option maxRecDepth 100000 in
set_option maxHeartbeats 2000000 in
/-- JudgePlans -/
theorem judgePlans_any (A B C : Option Addr) (n c m d q e0 : Nat) (way slots to : List Int) (w : World) (hl : way.length = n) (hm : n * 16 ≤ 140737488351232) (hx : Rd w A (I64 way)) (hl2 : slots.length = m) (hm2 : m * 8 ≤ 140737488351232) (hy : Rd w B (I64 slots)) (hl3 : to.length = q) (hm3 : q * 8 ≤ 140737488351232) (hz : Rd w C (I64 to)) (hwf : WfI to) :
    Calls Try.prog 5 #[.slice A n c, .slice B m d, .slice C q e0] w fun e w' => e = .returned (.bool true) ∧ Below w.heap.size w w' := by
  go_enter Try.func5, Try.ntmps5
  go_wp2_with fail
  refine (works_any w).mono ?_
  rintro e w1 ⟨rfl, hb1⟩
  go_wp2_with fail
  refine (marked_any A n c way w1 hl (by omega) (hx.below hb1)).mono ?_
  rintro e w2 ⟨g, rfl, r1, _, hb⟩
  replace hb1 := bthen hb1 hb
  clear hb
  go_wp2_with fail
  refine (marked_any B m d slots w2 hl2 hm2 (hy.below hb1)).mono ?_
  rintro e w3 ⟨h, rfl, r2, _, hb⟩
  replace hb1 := bthen hb1 hb
  replace r1 := r1.below hb
  clear hb
  go_wp2_with fail
  refine (marked_any C q e0 to w3 hl3 hm3 (hz.below hb1)).mono ?_
  rintro e w4 ⟨i, rfl, r3, _, hb⟩
  replace hb1 := bthen hb1 hb
  replace r1 := r1.below hb
  replace r2 := r2.below hb
  clear hb
  go_wp2_with fail
  refine (plan_any _ _ _ n (n + 64) m (m + 64) q (q + 64) way slots to w4 hl hm (mkd_full way w4 g r1) hl2 (mkd_full slots w4 h r2) hl3 hm3 (mkd_full to w4 i r3) hwf).mono ?_
  rintro e w5 ⟨va, vc, rfl, o1, hb⟩
  have q1 := own_rdA o1
  replace hb1 := bthen hb1 hb
  replace r1 := r1.below hb
  replace r2 := r2.below hb
  replace r3 := r3.below hb
  clear hb o1
  go_wp2_with fail
  refine (refPlan_any A B C n c m d q e0 way slots to w5 hl hm (hx.below hb1) hl2 (hy.below hb1) hl3 hm3 (hz.below hb1)).mono ?_
  rintro e w6 ⟨ua, uc, rfl, o1, hb⟩
  have q2 := own_rdA o1
  replace hb1 := bthen hb1 hb
  replace q1 := q1.below hb
  replace r1 := r1.below hb
  replace r2 := r2.below hb
  replace r3 := r3.below hb
  clear hb o1
  have hlen := planL_len way slots to
  generalize planL way slots to = L at *
  generalize planE way slots to = E at *
  go_wp2_with fail
  refine (eqMoves_any _ _ L.length _ _ L w6 rfl (by omega) q1 q2).mono ?_
  rintro e w7 ⟨rfl, hb⟩
  replace hb1 := bthen hb1 hb
  replace r1 := r1.below hb
  replace r2 := r2.below hb
  replace r3 := r3.below hb
  clear hb q1 q2
  go_wp2_with fail
  refine (still_any A g n c way w7 hl (by omega) r1 (hx.below hb1)).mono ?_
  rintro e w8 ⟨rfl, hb⟩
  replace hb1 := bthen hb1 hb
  replace r2 := r2.below hb
  replace r3 := r3.below hb
  clear hb
  go_wp2_with fail
  refine (still_any B h m d slots w8 hl2 hm2 r2 (hy.below hb1)).mono ?_
  rintro e w9 ⟨rfl, hb⟩
  replace hb1 := bthen hb1 hb
  replace r3 := r3.below hb
  clear hb
  go_wp2_with fail
  refine (still_any C i q e0 to w9 hl3 hm3 r3 (hz.below hb1)).mono ?_
  rintro e w10 ⟨rfl, hb⟩
  replace hb1 := bthen hb1 hb
  clear hb
  go_wp2
  go_returns
  exact ⟨rfl, hb1⟩
end Go.Proofs.Ytlcgkdhcdldlfaa
