import Derived.Test.YtlocogccjlecjaaDoorRdF
/- read: a part that repeats; every part. -/
namespace Go.Proofs.YtlocogccjlecjaaDoor
open Go.RowKit
theorem rgPost {B x H : Nat} {S : Nat → Prop} {t : Rx} {rs fs rs1 fs1 : List Nat} {e : En} {w0 w : World} (h : Rg B x H S rs1 fs1 w0 w) (he : rdF t rs fs = (e, rs1, fs1)) : RdPost B x S t rs fs w0 (.returned (EnV e)) w := by
  have h2 := Rg.post (t := t) (rs := rs) (fs := fs) (by rw [he]; exact h)
  rw [he] at h2
  exact h2
set_option maxRecDepth 100000 in
set_option maxHeartbeats 8000000 in
/-- read: a loop -/
theorem read_loop (B x : Nat) (hx : x < B) (hx0 : 0 < x) (r : Rx) (nn mm : Bool) (ih : RdC B x r) (S : Nat → Prop) (v : Value) (rs fs : List Nat) (w : World) (ht : Tr (fun b => b < x) w v r)
    (hB : B ≤ w.heap.size) (hp : Pl B x S w rs fs) (hS : ∀ z, S z → z < w.heap.size) (hl : rs.length + leaves r ≤ 64) (hT : Tab w) (hz : r.sz ≤ 1000) :
    Calls Tryd.prog 28 #[.pointer (some ⟨x, 0, none⟩), .iface 125 (.agg #[v, .bool nn, .bool mm])] w fun e w' => RdPost B x S (.loop r nn mm) rs fs w e w' := by
  obtain ⟨ty, xv, rfl⟩ := ht.isIface
  have hf1 : ∀ w : World, (Instr.typeAssert (.iface 125 (.agg #[.iface ty xv, .bool nn, .bool mm])) 64 118 true).run Tryd.prog w = .ok (.tuple #[.agg #[.int .u64 0, .int .u64 0, .int .u64 0, .int .u64 0], .bool false]) w := fun _ => by kernel_rfl
  have hf2 : ∀ w : World, (Instr.typeAssert (.iface 125 (.agg #[.iface ty xv, .bool nn, .bool mm])) 64 121 true).run Tryd.prog w = .ok (.tuple #[.agg #[.slice none 0 0], .bool false]) w := fun _ => by kernel_rfl
  have hf3 : ∀ w : World, (Instr.typeAssert (.iface 125 (.agg #[.iface ty xv, .bool nn, .bool mm])) 64 123 true).run Tryd.prog w = .ok (.tuple #[.agg #[.slice none 0 0], .bool false]) w := fun _ => by kernel_rfl
  have hf4 : ∀ w : World, (Instr.typeAssert (.iface 125 (.agg #[.iface ty xv, .bool nn, .bool mm])) 64 125 true).run Tryd.prog w = .ok (.tuple #[.agg #[.iface ty xv, .bool nn, .bool mm], .bool true]) w := fun _ => by kernel_rfl
  have hb : Below w.heap.size w ((w.alloc (.cells #[.bool false, .int .u64 0, .int .u64 0] 74)).alloc (.cells #[.iface ty xv, .bool nn, .bool mm] 125)) := by go_grown
  have q0 := (Blk.new w #[.bool false, .int .u64 0, .int .u64 0] 74).alloc (.cells #[.iface ty xv, .bool nn, .bool mm] 125)
  have q1 := Blk.new (w.alloc (.cells #[.bool false, .int .u64 0, .int .u64 0] 74)) #[.iface ty xv, .bool nn, .bool mm] 125
  simp only [World.size_alloc] at q1
  have g0 : Rg B x (w.heap.size + 1 + 1) S rs fs w ((w.alloc (.cells #[.bool false, .int .u64 0, .int .u64 0] 74)).alloc (.cells #[.iface ty xv, .bool nn, .bool mm] 125)) :=
    ⟨(hp.below hb).mono (fun z _ h => .inl h), .of_below hb, by simp, by omega, hS, hx, hB⟩
  have ht1 := ht.kp (.of_below (S := fun _ => False) hb) (fun _ _ _ e => e) (fun _ _ e => e)
  have hT1 := hT.kp (.of_below (S := fun _ => False) hb) (fun e => e)
  have hcall := g0.call ih ht1 hl hT1 hz
  have hlen := rdF_len r rs fs
  have hbf := rdF_bits r rs fs
  have HS : rdF (.loop r nn mm) rs fs = (⟨(rdF r rs fs).1.e || nn, (rdF r rs fs).1.f, (rdF r rs fs).1.l⟩, (rdF r rs fs).2.1, if mm then linkF (rdF r rs fs).2.2 (rdF r rs fs).1.l (rdF r rs fs).1.f else (rdF r rs fs).2.2) := rfl
  obtain ⟨⟨e1, f1, l1⟩, rs1, fs1, hY⟩ : ∃ a b c, rdF r rs fs = (a, b, c) := ⟨_, _, _, rfl⟩
  rw [hY] at hcall hbf hlen HS
  simp only at hcall hbf hlen HS
  have HU := Lib.hid HS
  have HL := Lib.hid (And.intro (hbf.1.lt (by omega)) (hbf.2.lt (by omega)))
  have HAB := Lib.hid (show ∀ j, l1.testBit j = true → j < rs1.length from fun j hj => by have := (hbf.2 j hj).2; omega)
  have HCALL := Lib.hid hcall
  have GI := Lib.hid (And.intro g0 (And.intro q0 (And.intro q1 hT1)))
  have y0 := q1.cell 0
  clear hcall hbf hlen HS hY g0 q0 q1 ht1 hT1 hb hp hS hl hT hz ht
  go_enter Tryd.func28, Tryd.ntmps28
  go_upto_region 35 with fail
  generalize (w.alloc (.cells #[.bool false, .int .u64 0, .int .u64 0] 74)).alloc (.cells #[.iface ty xv, .bool nn, .bool mm] 125) = W at *
  go_wp2_with fail
  refine HCALL.out.mono ?_
  rintro e w2 ⟨rfl, g2, k2⟩
  obtain ⟨g0, q0, q1, hT1⟩ := GI.out
  have hxw : x < w.heap.size := by have := g2.hB; omega
  have k2h := k2.size
  have hwsz := g0.sz
  have b02 := q0.kp k2 (g0.mine (Nat.le_refl _) (.inl (by omega)))
  have c02 := q1.kp k2 (g0.mine (by omega) (.inl (by omega)))
  have hT2 := hT1.kp k2 (g0.zero hx0)
  have h3 : Below w2.heap.size w2 (w2.alloc (.cells #[.bool e1, .int .u64 ((f1 : Nat) : Int), .int .u64 ((l1 : Nat) : Int)] 74)) := by go_grown
  have n5 := b02.below h3
  have c5 := c02.below h3
  have q5 := Blk.new w2 #[.bool e1, .int .u64 ((f1 : Nat) : Int), .int .u64 ((l1 : Nat) : Int)] 74
  have hT3 : Tab (w2.alloc (.cells #[.bool e1, .int .u64 ((f1 : Nat) : Int), .int .u64 ((l1 : Nat) : Int)] 74)) := hT2.kp (.of_below (S := fun _ => False) h3) (fun e => e)
  have HLINK := Lib.hid (g2.link h3 HL.out.2 HL.out.1 HAB.out hT3)
  have hKw2 : w.heap.size + 1 < w2.heap.size := by omega
  have x2 : (w2.alloc (.cells #[.bool e1, .int .u64 ((f1 : Nat) : Int), .int .u64 ((l1 : Nat) : Int)] 74)).cell? ⟨w.heap.size + 1, 2, none⟩ = some (.bool mm) := c5.cell 2
  have v1 : (w2.alloc (.cells #[.bool e1, .int .u64 ((f1 : Nat) : Int), .int .u64 ((l1 : Nat) : Int)] 74)).cell? ⟨w2.heap.size, 1, none⟩ = some (.int .u64 ((f1 : Nat) : Int)) := q5.cell 1
  have v2 : (w2.alloc (.cells #[.bool e1, .int .u64 ((f1 : Nat) : Int), .int .u64 ((l1 : Nat) : Int)] 74)).cell? ⟨w2.heap.size, 2, none⟩ = some (.int .u64 ((l1 : Nat) : Int)) := q5.cell 2
  have P5 := Lib.hid (And.intro g2 (And.intro c5 (And.intro q5 (And.intro n5 h3))))
  clear g2 n5 c5 q5 b02 c02 k2 hT2 hT3 h3 hT1 g0 q0 q1
  unfold EnV
  cases mm with
  | true =>
    go_wp2_with fail
    refine HLINK.out.mono ?_
    rintro e w5 ⟨rfl, g5, k5⟩
    obtain ⟨g2, c3, q3, n3, h3⟩ := P5.out
    have c5 := c3.kp k5 (g2.mine (by omega) (.inl (by omega)))
    have n5 := n3.kp k5 (g2.mine (Nat.le_refl _) (.inl (by omega)))
    have q5 := q3.kp k5 (g2.mine (by omega) (.inr (Nat.le_refl _)))
    clear x2 v1 v2 g2 c3 n3 q3 h3 k5 P5 HLINK HCALL
    generalize hw2 : w2.heap.size = E2 at *
    clear hw2 w2
    have y0 := q5.cell 0
    have u1 := c5.cell 1
    have fz := q5.frozen 0
    have g6 := g5.set q5 (by decide) (by decide) (by omega) 0 (.bool (e1 || nn))
    have q6 : Blk _ E2 #[.bool (e1 || nn), .int .u64 ((f1 : Nat) : Int), .int .u64 ((l1 : Nat) : Int)] 74 := q5.set 0 (.bool (e1 || nn))
    have n6 := n5.other ⟨E2, 0, none⟩ (.bool (e1 || nn)) (show w.heap.size ≠ _ by simp only; omega)
    have P6 := Lib.hid (And.intro g6 (And.intro q6 n6))
    clear g6 q6 n6 g5 q5 n5 c5
    have hE : (if e1 = true then true else nn) = (e1 || nn) := by cases e1 <;> rfl
    have key : ∀ wx, wx = w5.setCell ⟨E2, 0, none⟩ (.bool (e1 || nn)) → Rg B x (w.heap.size + 1 + 1) S rs1 (linkF fs1 l1 f1) w wx ∧ Blk wx E2 #[.bool (e1 || nn), .int .u64 ((f1 : Nat) : Int), .int .u64 ((l1 : Nat) : Int)] 74 ∧ Blk wx w.heap.size #[.bool false, .int .u64 0, .int .u64 0] 74 := fun wx h => h ▸ P6.out
    clear P6
    cases e1 with
    | true =>
      go_upto_region 39 with fail
      generalize hw6 : w5.setCell ⟨E2, 0, none⟩ (.bool (true)) = w6 at *
      obtain ⟨g6, q6, n6⟩ := key w6 (by rw [← hw6]; rfl)
      clear key hw6 y0 u1 fz
      have y0 : w6.cell? ⟨E2, 0, none⟩ = some (.bool (true)) := q6.cell 0
      have y1 := q6.cell 1
      have y2 := q6.cell 2
      have s0 := n6.cell 0
      have s1 := n6.cell 1
      have s2 := n6.cell 2
      have z0 := n6.frozen 0
      have z1 := n6.frozen 1
      have z2 := n6.frozen 2
      have g7 := ((g6.set n6 (by decide) (by decide) (Nat.le_refl _) 0 (.bool (true))).set (n6.set 0 (.bool (true))) (by decide) (by decide) (Nat.le_refl _) 1 (.int .u64 ((f1 : Nat) : Int))).set ((n6.set 0 (.bool (true))).set 1 (.int .u64 ((f1 : Nat) : Int))) (by decide) (by decide) (Nat.le_refl _) 2 (.int .u64 ((l1 : Nat) : Int))
      have n7 : Blk _ w.heap.size #[.bool (true), .int .u64 ((f1 : Nat) : Int), .int .u64 ((l1 : Nat) : Int)] 74 := ((n6.set 0 (.bool (true))).set 1 (.int .u64 ((f1 : Nat) : Int))).set 2 (.int .u64 ((l1 : Nat) : Int))
      have P7 := Lib.hid (And.intro g7 n7)
      clear g7 n7 g6 q6 n6
      go_wp2
      generalize ((w6.setCell ⟨w.heap.size, 0, none⟩ (.bool (true))).setCell ⟨w.heap.size, 1, none⟩ (.int .u64 ((f1 : Nat) : Int))).setCell ⟨w.heap.size, 2, none⟩ (.int .u64 ((l1 : Nat) : Int)) = wf at *
      obtain ⟨g7, n7⟩ := P7.out
      have x0 : wf.cell? ⟨w.heap.size, 0, none⟩ = some (.bool (true)) := n7.cell 0
      have x1 : wf.cell? ⟨w.heap.size, 1, none⟩ = some (.int .u64 ((f1 : Nat) : Int)) := n7.cell 1
      have x2 : wf.cell? ⟨w.heap.size, 2, none⟩ = some (.int .u64 ((l1 : Nat) : Int)) := n7.cell 2
      simp [bodyPost, results, Tryd.results28, go_sem, x0, x1, x2]
      have h := HU.out
      exact rgPost g7 h
    | false =>
      go_upto_region 39 with fail
      generalize hw6 : w5.setCell ⟨E2, 0, none⟩ (.bool (nn)) = w6 at *
      obtain ⟨g6, q6, n6⟩ := key w6 (by rw [← hw6]; rfl)
      clear key hw6 y0 u1 fz
      have y0 : w6.cell? ⟨E2, 0, none⟩ = some (.bool (nn)) := q6.cell 0
      have y1 := q6.cell 1
      have y2 := q6.cell 2
      have s0 := n6.cell 0
      have s1 := n6.cell 1
      have s2 := n6.cell 2
      have z0 := n6.frozen 0
      have z1 := n6.frozen 1
      have z2 := n6.frozen 2
      have g7 := ((g6.set n6 (by decide) (by decide) (Nat.le_refl _) 0 (.bool (nn))).set (n6.set 0 (.bool (nn))) (by decide) (by decide) (Nat.le_refl _) 1 (.int .u64 ((f1 : Nat) : Int))).set ((n6.set 0 (.bool (nn))).set 1 (.int .u64 ((f1 : Nat) : Int))) (by decide) (by decide) (Nat.le_refl _) 2 (.int .u64 ((l1 : Nat) : Int))
      have n7 : Blk _ w.heap.size #[.bool (nn), .int .u64 ((f1 : Nat) : Int), .int .u64 ((l1 : Nat) : Int)] 74 := ((n6.set 0 (.bool (nn))).set 1 (.int .u64 ((f1 : Nat) : Int))).set 2 (.int .u64 ((l1 : Nat) : Int))
      have P7 := Lib.hid (And.intro g7 n7)
      clear g7 n7 g6 q6 n6
      go_wp2
      generalize ((w6.setCell ⟨w.heap.size, 0, none⟩ (.bool (nn))).setCell ⟨w.heap.size, 1, none⟩ (.int .u64 ((f1 : Nat) : Int))).setCell ⟨w.heap.size, 2, none⟩ (.int .u64 ((l1 : Nat) : Int)) = wf at *
      obtain ⟨g7, n7⟩ := P7.out
      have x0 : wf.cell? ⟨w.heap.size, 0, none⟩ = some (.bool (nn)) := n7.cell 0
      have x1 : wf.cell? ⟨w.heap.size, 1, none⟩ = some (.int .u64 ((f1 : Nat) : Int)) := n7.cell 1
      have x2 : wf.cell? ⟨w.heap.size, 2, none⟩ = some (.int .u64 ((l1 : Nat) : Int)) := n7.cell 2
      simp [bodyPost, results, Tryd.results28, go_sem, x0, x1, x2]
      have h := HU.out
      exact rgPost g7 h

  | false =>
    go_upto_region 38 with fail
    obtain ⟨g2, c5, q5, n5, h3⟩ := P5.out
    have g5 := g2.below h3
    clear x2 v1 v2 g2 h3 P5 HLINK HCALL
    generalize w2.alloc (.cells #[.bool e1, .int .u64 ((f1 : Nat) : Int), .int .u64 ((l1 : Nat) : Int)] 74) = w5 at *
    generalize hw2 : w2.heap.size = E2 at *
    clear hw2 w2
    have y0 := q5.cell 0
    have u1 := c5.cell 1
    have fz := q5.frozen 0
    have g6 := g5.set q5 (by decide) (by decide) (by omega) 0 (.bool (e1 || nn))
    have q6 : Blk _ E2 #[.bool (e1 || nn), .int .u64 ((f1 : Nat) : Int), .int .u64 ((l1 : Nat) : Int)] 74 := q5.set 0 (.bool (e1 || nn))
    have n6 := n5.other ⟨E2, 0, none⟩ (.bool (e1 || nn)) (show w.heap.size ≠ _ by simp only; omega)
    have P6 := Lib.hid (And.intro g6 (And.intro q6 n6))
    clear g6 q6 n6 g5 q5 n5 c5
    have hE : (if e1 = true then true else nn) = (e1 || nn) := by cases e1 <;> rfl
    have key : ∀ wx, wx = w5.setCell ⟨E2, 0, none⟩ (.bool (e1 || nn)) → Rg B x (w.heap.size + 1 + 1) S rs1 (fs1) w wx ∧ Blk wx E2 #[.bool (e1 || nn), .int .u64 ((f1 : Nat) : Int), .int .u64 ((l1 : Nat) : Int)] 74 ∧ Blk wx w.heap.size #[.bool false, .int .u64 0, .int .u64 0] 74 := fun wx h => h ▸ P6.out
    clear P6
    cases e1 with
    | true =>
      go_upto_region 39 with fail
      generalize hw6 : w5.setCell ⟨E2, 0, none⟩ (.bool (true)) = w6 at *
      obtain ⟨g6, q6, n6⟩ := key w6 (by rw [← hw6]; rfl)
      clear key hw6 y0 u1 fz
      have y0 : w6.cell? ⟨E2, 0, none⟩ = some (.bool (true)) := q6.cell 0
      have y1 := q6.cell 1
      have y2 := q6.cell 2
      have s0 := n6.cell 0
      have s1 := n6.cell 1
      have s2 := n6.cell 2
      have z0 := n6.frozen 0
      have z1 := n6.frozen 1
      have z2 := n6.frozen 2
      have g7 := ((g6.set n6 (by decide) (by decide) (Nat.le_refl _) 0 (.bool (true))).set (n6.set 0 (.bool (true))) (by decide) (by decide) (Nat.le_refl _) 1 (.int .u64 ((f1 : Nat) : Int))).set ((n6.set 0 (.bool (true))).set 1 (.int .u64 ((f1 : Nat) : Int))) (by decide) (by decide) (Nat.le_refl _) 2 (.int .u64 ((l1 : Nat) : Int))
      have n7 : Blk _ w.heap.size #[.bool (true), .int .u64 ((f1 : Nat) : Int), .int .u64 ((l1 : Nat) : Int)] 74 := ((n6.set 0 (.bool (true))).set 1 (.int .u64 ((f1 : Nat) : Int))).set 2 (.int .u64 ((l1 : Nat) : Int))
      have P7 := Lib.hid (And.intro g7 n7)
      clear g7 n7 g6 q6 n6
      go_wp2
      generalize ((w6.setCell ⟨w.heap.size, 0, none⟩ (.bool (true))).setCell ⟨w.heap.size, 1, none⟩ (.int .u64 ((f1 : Nat) : Int))).setCell ⟨w.heap.size, 2, none⟩ (.int .u64 ((l1 : Nat) : Int)) = wf at *
      obtain ⟨g7, n7⟩ := P7.out
      have x0 : wf.cell? ⟨w.heap.size, 0, none⟩ = some (.bool (true)) := n7.cell 0
      have x1 : wf.cell? ⟨w.heap.size, 1, none⟩ = some (.int .u64 ((f1 : Nat) : Int)) := n7.cell 1
      have x2 : wf.cell? ⟨w.heap.size, 2, none⟩ = some (.int .u64 ((l1 : Nat) : Int)) := n7.cell 2
      simp [bodyPost, results, Tryd.results28, go_sem, x0, x1, x2]
      have h := HU.out
      exact rgPost g7 h
    | false =>
      go_upto_region 39 with fail
      generalize hw6 : w5.setCell ⟨E2, 0, none⟩ (.bool (nn)) = w6 at *
      obtain ⟨g6, q6, n6⟩ := key w6 (by rw [← hw6]; rfl)
      clear key hw6 y0 u1 fz
      have y0 : w6.cell? ⟨E2, 0, none⟩ = some (.bool (nn)) := q6.cell 0
      have y1 := q6.cell 1
      have y2 := q6.cell 2
      have s0 := n6.cell 0
      have s1 := n6.cell 1
      have s2 := n6.cell 2
      have z0 := n6.frozen 0
      have z1 := n6.frozen 1
      have z2 := n6.frozen 2
      have g7 := ((g6.set n6 (by decide) (by decide) (Nat.le_refl _) 0 (.bool (nn))).set (n6.set 0 (.bool (nn))) (by decide) (by decide) (Nat.le_refl _) 1 (.int .u64 ((f1 : Nat) : Int))).set ((n6.set 0 (.bool (nn))).set 1 (.int .u64 ((f1 : Nat) : Int))) (by decide) (by decide) (Nat.le_refl _) 2 (.int .u64 ((l1 : Nat) : Int))
      have n7 : Blk _ w.heap.size #[.bool (nn), .int .u64 ((f1 : Nat) : Int), .int .u64 ((l1 : Nat) : Int)] 74 := ((n6.set 0 (.bool (nn))).set 1 (.int .u64 ((f1 : Nat) : Int))).set 2 (.int .u64 ((l1 : Nat) : Int))
      have P7 := Lib.hid (And.intro g7 n7)
      clear g7 n7 g6 q6 n6
      go_wp2
      generalize ((w6.setCell ⟨w.heap.size, 0, none⟩ (.bool (nn))).setCell ⟨w.heap.size, 1, none⟩ (.int .u64 ((f1 : Nat) : Int))).setCell ⟨w.heap.size, 2, none⟩ (.int .u64 ((l1 : Nat) : Int)) = wf at *
      obtain ⟨g7, n7⟩ := P7.out
      have x0 : wf.cell? ⟨w.heap.size, 0, none⟩ = some (.bool (nn)) := n7.cell 0
      have x1 : wf.cell? ⟨w.heap.size, 1, none⟩ = some (.int .u64 ((f1 : Nat) : Int)) := n7.cell 1
      have x2 : wf.cell? ⟨w.heap.size, 2, none⟩ = some (.int .u64 ((l1 : Nat) : Int)) := n7.cell 2
      simp [bodyPost, results, Tryd.results28, go_sem, x0, x1, x2]
      have h := HU.out
      exact rgPost g7 h

/-- read -/
theorem read_any (B x : Nat) (hx : x < B) (hx0 : 0 < x) : ∀ (n : Nat) (t : Rx), t.sz ≤ n → RdC B x t
  | 0, t, h => by cases t <;> simp [Rx.sz] at h
  | n + 1, t, hsz => fun S v rs fs w ht hB hp hS hl hT hz => by
    have ih : ∀ r : Rx, r.sz < t.sz → RdC B x r := fun r hr => read_any B x hx hx0 n r (by omega)
    cases ht with
    | leaf N h1 h2 => exact rdC_leaf B x N hx S _ rs fs w (.leaf N h1 h2) hB hp hS hl hT hz
    | row hn hr h => exact read_row B x hx hx0 t ih S _ _ _ _ rs fs w hn hr h hB hp hS hl hT hz
    | fork hn hr h => exact read_fork B x hx hx0 t ih S _ _ _ _ rs fs w hn hr h hB hp hS hl hT hz
    | @loop v r a b h => exact read_loop B x hx hx0 r a b (ih r (by simp only [Rx.sz]; omega)) S v rs fs w h hB hp hS hl hT (by simp only [Rx.sz] at hz; omega)
end Go.Proofs.YtlocogccjlecjaaDoor
