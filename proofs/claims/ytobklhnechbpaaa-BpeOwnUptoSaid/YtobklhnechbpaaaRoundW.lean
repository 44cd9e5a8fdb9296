import Derived.Test.YtobklhnechbpaaaLives
namespace Go.Proofs.Ytobklhnechbpaaa
open Go.RowKit

theorem voc_of_rows {w : World} {base n m cA cB : Nat} {A A' B B' : Option Addr} {bs : List Int} {ps : List (Int × Int)} {w0 : World} (hv : Voc w0 B B' n m bs ps) (h1 : w.ownsRow base 5 1 (.slice A n cA) n (B8 bs)) (h2 : w.ownsRow base 51 2 (.slice A' m cB) m (PR ps)) : Voc w A A' n m bs ps :=
  ⟨hv.hn, hv.hm, hv.b1, hv.b2, own_rdA h1, own_rdA h2⟩

set_option maxRecDepth 100000 in
set_option maxHeartbeats 4000000 in
/-- BpeRound -/
theorem roundW_any (A A' T : Option Addr) (n m t c c' ct : Nat) (bs : List Int) (ps : List (Int × Int)) (x : List Int) (w : World) (hv : Voc w A A' n m bs ps) (hwf : Wf bs ps) (hl : x.length = t) (ht : Rd w T (B8 x)) (hwx : ∀ b ∈ x, (Lit.int .u8 b).wf = true) (hs : t ≤ 8388600) (hns : n ≤ 140737488355328) :
    Calls Try.prog 8 #[.agg #[.slice A n c, .slice A' m c'], .slice T t ct] w fun e w' => e = .returned (.bool true) ∧ Below w.heap.size w w' := by
  have hb : Below w.heap.size w (w.alloc (.cells #[.slice A n c, .slice A' m c'] 25)) := by go_grown
  have q0 := Blk.new w #[.slice A n c, .slice A' m c'] 25
  go_enter Try.func8, Try.ntmps8
  go_wp2_with fail
  generalize w.alloc (.cells #[.slice A n c, .slice A' m c'] 25) = w0 at *
  refine (lives_any w0).mono ?_
  rintro e w1 ⟨rfl, hb1⟩
  replace q0 := q0.below hb1
  replace hb := bthen hb hb1
  clear hb1
  have x0 : w1.cell? ⟨w.heap.size, 0, none⟩ = some (.slice A n c) := q0.cell _
  have x1 : w1.cell? ⟨w.heap.size, 1, none⟩ = some (.slice A' m c') := q0.cell _
  go_wp2_with fail
  have hv1 := hv.below hb
  refine (copyVocab_any A A' n m c c' bs ps hv.hn hv.hm hv.b1 hv.b2 w1 hv1.hx hv1.hy).mono ?_
  rintro e w2 ⟨v, u, rfl, ov, ou, hb1⟩
  obtain ⟨va, vc, rfl, _, _⟩ := own_rd ov
  obtain ⟨ua, uc, rfl, _, _⟩ := own_rd ou
  have hv2 := voc_of_rows hv ov ou
  replace q0 := q0.below hb1
  replace hb := bthen hb hb1
  clear hb1 x0 x1 hv1 ov ou
  go_wp2_with fail
  refine (check_any va ua n m vc uc bs ps w2 hv2 hwf).mono ?_
  rintro e w3 ⟨rfl, hb1⟩
  replace q0 := q0.below hb1
  replace hb := bthen hb hb1
  clear hb1 hv2
  have x0 : w3.cell? ⟨w.heap.size, 0, none⟩ = some (.slice A n c) := q0.cell _
  have x1 : w3.cell? ⟨w.heap.size, 1, none⟩ = some (.slice A' m c') := q0.cell _
  go_wp2_with fail
  have hv1 := hv.below hb
  refine (copyVocab_any A A' n m c c' bs ps hv.hn hv.hm hv.b1 hv.b2 w3 hv1.hx hv1.hy).mono ?_
  rintro e w4 ⟨v, u, rfl, ov, ou, hb1⟩
  obtain ⟨va, vc, rfl, _, _⟩ := own_rd ov
  obtain ⟨ua, uc, rfl, _, _⟩ := own_rd ou
  have hv2 := voc_of_rows hv ov ou
  replace q0 := q0.below hb1
  replace hb := bthen hb hb1
  clear hb1 x0 x1 hv1 ov ou
  go_wp2_with fail
  refine (copyBytes_any T t ct x hl (by omega) w4 (ht.below hb)).mono ?_
  rintro e w5 ⟨v, rfl, ov, hb1⟩
  obtain ⟨ya, yc, rfl, _, _⟩ := own_rd ov
  have ry := own_rdA ov
  replace hv2 := hv2.below hb1
  replace q0 := q0.below hb1
  replace hb := bthen hb hb1
  clear hb1 ov
  go_wp2_with fail
  refine (encode_any va ua ya n m t vc uc yc bs ps x w5 hv2 hwf hl ry hwx hs).mono ?_
  rintro e w6 ⟨v, rfl, ov, hb1⟩
  obtain ⟨la, lc, rfl, _, _⟩ := own_rd ov
  have rl := own_rdA ov
  replace q0 := q0.below hb1
  replace hb := bthen hb hb1
  clear hb1 ov hv2 ry
  have x0 : w6.cell? ⟨w.heap.size, 0, none⟩ = some (.slice A n c) := q0.cell _
  have x1 : w6.cell? ⟨w.heap.size, 1, none⟩ = some (.slice A' m c') := q0.cell _
  go_wp2_with fail
  refine (refCheck_any A A' n m c c' bs ps w6 (hv.below hb)).mono ?_
  rintro e w7 ⟨rfl, hb1⟩
  replace rl := rl.below hb1
  replace q0 := q0.below hb1
  replace hb := bthen hb hb1
  clear hb1 x0 x1
  have hle := encL_small bs ps x
  cases hq : vocF bs ps with
  | none =>
    have h1 : errV bs ps = 50 := by unfold errV; rw [hq]; rfl
    have h2 : errE bs ps x = 50 := by unfold errE; rw [hq]
    have h3 : (encL bs ps x).length = 0 := by unfold encL; rw [hq]; rfl
    rw [h1, h2, h3]
    clear h1 h2 h3 hq rl hle
    go_wp2
    go_returns
    exact ⟨rfl, hb⟩
  | some ls =>
    have h1 : errV bs ps = 0 := by unfold errV; rw [hq]; rfl
    rw [h1]
    clear h1
    by_cases hall : x.all (fun b => decide (b ∈ bs)) = true
    · have h2 : errE bs ps x = 0 := by unfold errE; rw [hq]; simp only; rw [if_pos hall]
      obtain ⟨r1, r2⟩ := round_ok hq hall
      have ST := Lib.hid (show (!(x.all (fun b => decide (b ∈ bs)))) = false by rw [hall]; rfl)
      rw [h2]
      have R1 := Lib.hid r1
      have R2 := Lib.hid r2
      clear h2 hall r1 r2 hq
      have x0 : w7.cell? ⟨w.heap.size, 0, none⟩ = some (.slice A n c) := q0.cell _
      have x1 : w7.cell? ⟨w.heap.size, 1, none⟩ = some (.slice A' m c') := q0.cell _
      go_wp2_with fail
      have hv1 := hv.below hb
      refine (copyVocab_any A A' n m c c' bs ps hv.hn hv.hm hv.b1 hv.b2 w7 hv1.hx hv1.hy).mono ?_
      rintro e w8 ⟨v, u, rfl, ov, ou, hb1⟩
      obtain ⟨va, vc, rfl, _, _⟩ := own_rd ov
      obtain ⟨ua, uc, rfl, _, _⟩ := own_rd ou
      have hv2 := voc_of_rows hv ov ou
      replace q0 := q0.below hb1
      replace rl := rl.below hb1
      replace hb := bthen hb hb1
      clear hb1 x0 x1 hv1 ov ou
      go_wp2_with fail
      refine (decode_any va ua la n m (encL bs ps x).length vc uc lc bs ps (encL bs ps x) w8 hv2 hwf rfl rl (by omega)).mono ?_
      rintro e w9 ⟨v, rfl, ov, hb1⟩
      rw [R1.out]
      rw [R2.out, hl] at ov
      obtain ⟨ba, bc, rfl, _, _⟩ := own_rd ov
      have rb := own_rdA ov
      replace q0 := q0.below hb1
      replace hb := bthen hb hb1
      clear hb1 ov hv2 rl
      have x0 : w9.cell? ⟨w.heap.size, 0, none⟩ = some (.slice A n c) := q0.cell _
      have x1 : w9.cell? ⟨w.heap.size, 1, none⟩ = some (.slice A' m c') := q0.cell _
      generalize (encL bs ps x).length = N at *
      go_wp2_with fail
      refine (strange_any A A' T n m t c c' ct bs ps x w9 (hv.below hb) hl (ht.below hb) hs hns).mono ?_
      rintro e w10 ⟨rfl, hb1⟩
      rw [ST.out]
      replace rb := rb.below hb1
      replace hb := bthen hb hb1
      clear hb1 x0 x1
      go_wp2_with fail
      refine (eqBytes_any ba T t t bc ct x x hl hl (by omega) w10 rb (ht.below hb)).mono ?_
      rintro e w11 ⟨rfl, hb1⟩
      rw [decide_eq_true rfl]
      replace hb := bthen hb hb1
      go_wp2
      go_returns
      exact ⟨rfl, hb⟩
    · have h2 : errE bs ps x = 51 := by unfold errE; rw [hq]; simp only; rw [if_neg hall]
      have h3 : (encL bs ps x).length = 0 := by unfold encL; rw [hq]; simp only; rw [if_neg hall]; rfl
      have ST := Lib.hid (show (!(x.all (fun b => decide (b ∈ bs)))) = true by simpa using hall)
      rw [h2, h3]
      clear h2 h3 hall hq rl hle
      have x0 : w7.cell? ⟨w.heap.size, 0, none⟩ = some (.slice A n c) := q0.cell _
      have x1 : w7.cell? ⟨w.heap.size, 1, none⟩ = some (.slice A' m c') := q0.cell _
      go_wp2_with fail
      refine (strange_any A A' T n m t c c' ct bs ps x w7 (hv.below hb) hl (ht.below hb) hs hns).mono ?_
      rintro e w10 ⟨rfl, hb1⟩
      rw [ST.out]
      replace hb := bthen hb hb1
      clear hb1 x0 x1
      go_wp2
      go_returns
      exact ⟨rfl, hb⟩
end Go.Proofs.Ytobklhnechbpaaa
