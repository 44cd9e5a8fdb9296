import Derived.Test.YtlocogccjlecjaaDoorRdR
/- read: a fork, a loop. -/
namespace Go.Proofs.YtlocogccjlecjaaDoor
open Go.RowKit
def forkU (ts : List Rx) (i : Nat) : Rx := (ts.take i).foldl Rx.alt .no
theorem forkU_succ {ts : List Rx} {i : Nat} {r : Rx} (h : ts[i]? = some r) : forkU ts (i + 1) = .alt (forkU ts i) r := by
  unfold forkU; rw [takeSucc h, List.foldl_append]; rfl
theorem forkU_all {ts : List Rx} {i : Nat} (h : ts.length ≤ i) : forkU ts i = ts.foldl Rx.alt .no := by
  unfold forkU; rw [List.take_of_length_le h]
theorem leaves_foldl_alt (l : List Rx) : ∀ a, leaves a ≤ leaves (l.foldl Rx.alt a) := by
  induction l with
  | nil => intro a; exact Nat.le_refl _
  | cons x l ih => intro a; exact Nat.le_trans (show leaves a ≤ leaves (.alt a x) by simp [leaves]) (ih _)
theorem leaves_forkU (ts : List Rx) (i : Nat) : leaves (forkU ts i) ≤ leaves (ts.foldl Rx.alt .no) := by
  have h := leaves_foldl_alt (ts.drop i) (forkU ts i)
  unfold forkU at h ⊢
  rw [← List.foldl_append, List.take_append_drop] at h
  exact h
theorem sz_foldl_alt (l : List Rx) : ∀ a : Rx, a.sz + l.length ≤ (l.foldl Rx.alt a).sz := by
  induction l with
  | nil => intro a; exact Nat.le_refl _
  | cons x l ih => intro a; have := ih (.alt a x); simp only [Rx.sz, List.foldl_cons, List.length_cons] at this ⊢; omega
set_option maxRecDepth 100000 in
set_option maxHeartbeats 8000000 in
/-- read: a fork -/
theorem read_fork (B x : Nat) (hx : x < B) (hx0 : 0 < x) (t : Rx) (ih : ∀ r : Rx, r.sz < t.sz → RdC B x r) (S : Nat → Prop) (A : Option Addr) (n c : Nat) (vs : List Value) (rs fs : List Nat) (w : World) (hn : vs.length = n) (hr : Rp (fun b => b < x) w A vs) (hrow : ForkT (fun b => b < x) w vs t)
    (hB : B ≤ w.heap.size) (hp : Pl B x S w rs fs) (hS : ∀ z, S z → z < w.heap.size) (hl : rs.length + leaves t ≤ 64) (hT : Tab w) (hz : t.sz ≤ 1000) :
    Calls Tryd.prog 28 #[.pointer (some ⟨x, 0, none⟩), .iface 123 (.agg #[.slice A n c])] w fun e w' => RdPost B x S t rs fs w e w' := by
  obtain ⟨ts, hts, rfl, hel⟩ := hrow.list
  have hn2 : n ≤ 1000 := by have := sz_foldl_alt ts .no; omega
  have hf1 : ∀ w : World, (Instr.typeAssert (.iface 123 (.agg #[.slice A n c])) 64 118 true).run Tryd.prog w = .ok (.tuple #[.agg #[.int .u64 0, .int .u64 0, .int .u64 0, .int .u64 0], .bool false]) w := fun _ => by kernel_rfl
  have hf2 : ∀ w : World, (Instr.typeAssert (.iface 123 (.agg #[.slice A n c])) 64 121 true).run Tryd.prog w = .ok (.tuple #[.agg #[.slice none 0 0], .bool false]) w := fun _ => by kernel_rfl
  have hf3 : ∀ w : World, (Instr.typeAssert (.iface 123 (.agg #[.slice A n c])) 64 123 true).run Tryd.prog w = .ok (.tuple #[.agg #[.slice A n c], .bool true]) w := fun _ => by kernel_rfl
  have q0 := ((Blk.new w #[.bool false, .int .u64 0, .int .u64 0] 74).alloc (.cells #[.slice A n c] 123)).alloc (.cells #[.bool false, .int .u64 0, .int .u64 0] 74)
  have q1 := (Blk.new (w.alloc (.cells #[.bool false, .int .u64 0, .int .u64 0] 74)) #[.slice A n c] 123).alloc (.cells #[.bool false, .int .u64 0, .int .u64 0] 74)
  have q2 := Blk.new ((w.alloc (.cells #[.bool false, .int .u64 0, .int .u64 0] 74)).alloc (.cells #[.slice A n c] 123)) #[.bool false, .int .u64 0, .int .u64 0] 74
  simp only [World.size_alloc] at q1 q2
  have hb : Below w.heap.size w (((w.alloc (.cells #[.bool false, .int .u64 0, .int .u64 0] 74)).alloc (.cells #[.slice A n c] 123)).alloc (.cells #[.bool false, .int .u64 0, .int .u64 0] 74)) := by go_grown
  have g0 : Rg B x (w.heap.size + 1 + 1 + 1) S rs fs w (((w.alloc (.cells #[.bool false, .int .u64 0, .int .u64 0] 74)).alloc (.cells #[.slice A n c] 123)).alloc (.cells #[.bool false, .int .u64 0, .int .u64 0] 74)) :=
    ⟨(hp.below hb).mono (fun z _ h => .inl h), .of_below hb, by simp, by omega, hS, hx, hB⟩
  have F := Lib.hid (And.intro hel (And.intro hr (And.intro hl (And.intro hT ih))))
  have HTS := Lib.hid hts
  have HN := Lib.hid hn
  have HZ := Lib.hid hz
  clear hel hr hl hT ih hp hS hrow hb hts hn hz
  go_enter Tryd.func28, Tryd.ntmps28
  go_wp2
  generalize hW : ((w.alloc (.cells #[.bool false, .int .u64 0, .int .u64 0] 74)).alloc (.cells #[.slice A n c] 123)).alloc (.cells #[.bool false, .int .u64 0, .int .u64 0] 74) = W at *
  clear hW
  go_loopw [106] (fun iv wr => ∃ i : Nat, iv = .int .i64 ((i : Nat) : Int) ∧ i ≤ n ∧ Rg B x (w.heap.size + 1 + 1 + 1) S (rdF (forkU ts i) rs fs).2.1 (rdF (forkU ts i) rs fs).2.2 w wr ∧ Blk wr w.heap.size #[.bool false, .int .u64 0, .int .u64 0] 74 ∧ Blk wr (w.heap.size + 1 + 1) (enC (rdF (forkU ts i) rs fs).1) 74) (fun iv _ => n - (intOf iv).toNat)
  case atStart => exact ⟨0, rfl, by omega, g0, q0, q2⟩
  case round =>
    clear g0 q0 q1 q2
    obtain ⟨i, rfl, hin, gi, b0, b2⟩ := hrel
    by_cases hi : i = n
    · subst hi
      have hfin := forkU_all (ts := ts) (i := i) (by have := HN.out; have := HTS.out; omega)
      rw [hfin] at gi b2
      have HW := Lib.hid gi
      clear gi hfin
      generalize hX : rdF (ts.foldl Rx.alt .no) rs fs = X at b2
      obtain ⟨⟨e0, f0, l0⟩, rs0, fs0⟩ := X
      have z0 : wr.cell? ⟨w.heap.size + 1 + 1, 0, none⟩ = some (.bool e0) := b2.cell 0
      have z1 : wr.cell? ⟨w.heap.size + 1 + 1, 1, none⟩ = some (.int .u64 ((f0 : Nat) : Int)) := b2.cell 1
      have z2 : wr.cell? ⟨w.heap.size + 1 + 1, 2, none⟩ = some (.int .u64 ((l0 : Nat) : Int)) := b2.cell 2
      have y0 := b0.cell 0
      have y1 := b0.cell 1
      have y2 := b0.cell 2
      have v0 := b0.frozen 0
      have v1 := b0.frozen 1
      have v2 := b0.frozen 2
      have g3 := (((HW.out.set b0 (by decide) (by decide) (Nat.le_refl _) 0 (.bool e0)).set (b0.set 0 (.bool e0)) (by decide) (by decide) (Nat.le_refl _) 1 (.int .u64 ((f0 : Nat) : Int))).set ((b0.set 0 (.bool e0)).set 1 (.int .u64 ((f0 : Nat) : Int))) (by decide) (by decide) (Nat.le_refl _) 2 (.int .u64 ((l0 : Nat) : Int)))
      have c3 : Blk _ w.heap.size #[.bool e0, .int .u64 ((f0 : Nat) : Int), .int .u64 ((l0 : Nat) : Int)] 74 := ((b0.set 0 (.bool e0)).set 1 (.int .u64 ((f0 : Nat) : Int))).set 2 (.int .u64 ((l0 : Nat) : Int))
      have P3 := Lib.hid (And.intro g3 (And.intro c3 hX))
      clear g3 c3 b0 b2 hX HW
      go_wp2
      generalize ((wr.setCell ⟨w.heap.size, 0, none⟩ (.bool e0)).setCell ⟨w.heap.size, 1, none⟩ (.int .u64 ((f0 : Nat) : Int))).setCell ⟨w.heap.size, 2, none⟩ (.int .u64 ((l0 : Nat) : Int)) = wf at *
      obtain ⟨g3, c3, hX⟩ := P3.out
      have x0 : wf.cell? ⟨w.heap.size, 0, none⟩ = some (.bool e0) := c3.cell 0
      have x1 : wf.cell? ⟨w.heap.size, 1, none⟩ = some (.int .u64 ((f0 : Nat) : Int)) := c3.cell 1
      have x2 : wf.cell? ⟨w.heap.size, 2, none⟩ = some (.int .u64 ((l0 : Nat) : Int)) := c3.cell 2
      simp [bodyPost, results, Tryd.results28, go_sem, x0, x1, x2]
      have h := g3.post
      rw [hX] at h
      exact h
    · have hlt : ((i : Nat) : Int) < ((n : Nat) : Int) := by omega
      obtain ⟨v, hv⟩ : ∃ v, vs[i]? = some v := ⟨_, List.getElem?_eq_getElem (by have := HN.out; omega)⟩
      obtain ⟨r, hrr⟩ : ∃ r, ts[i]? = some r := ⟨_, List.getElem?_eq_getElem (by have := HN.out; have := HTS.out; omega)⟩
      obtain ⟨ht, hsz⟩ := F.out.1 i v r hv hrr
      have hti : Tr (fun b => b < x) wr v r := ht.kp gi.kp (fun b _ hb e => by have := gi.hx; omega) (fun b _ h => h)
      have hri := (F.out.2.1.kp gi.kp (fun b _ hb e => by have := gi.hx; omega)).rd
      obtain ⟨g, o, rfl, hel0⟩ := hri.at i (lt_of_some hv)
      rw [← List.getElem?_eq_getElem (lt_of_some hv), hv] at hel0
      have hTr : Tab wr := F.out.2.2.2.1.kp gi.kp (by have := gi.hx; have := gi.hB; omega)
      have HU := Lib.hid (forkU_succ hrr)
      have hlv := leaves_forkU ts (i + 1)
      rw [HU.out] at hlv
      have hlv2 := F.out.2.2.1
      simp only [leaves] at hlv
      have hlen := rdF_len (forkU ts i) rs fs
      have hbl := (rdF_bits (forkU ts i) rs fs)
      have hbf := (rdF_bits r (rdF (forkU ts i) rs fs).2.1 (rdF (forkU ts i) rs fs).2.2)
      have hlen2 := rdF_len r (rdF (forkU ts i) rs fs).2.1 (rdF (forkU ts i) rs fs).2.2
      have hcall := gi.call (F.out.2.2.2.2 r hsz) hti (by omega) hTr (by have := HZ.out; omega)
      obtain ⟨⟨e0, f0, l0⟩, rs0, fs0, hX⟩ : ∃ a b c, rdF (forkU ts i) rs fs = (a, b, c) := ⟨_, _, _, rfl⟩
      have HS : rdF (forkU ts (i + 1)) rs fs = rdF (.alt (forkU ts i) r) rs fs := by rw [HU.out]
      simp only [rdF] at HS
      rw [hX] at gi b2 hcall hlen hbl hbf HS hlen2
      simp only at gi b2 hcall hlen hbl hbf HS hlen2
      obtain ⟨⟨e1, f1, l1⟩, rs1, fs1, hY⟩ : ∃ a b c, rdF r rs0 fs0 = (a, b, c) := ⟨_, _, _, rfl⟩
      rw [hY] at hcall hbf HS hlen2
      simp only at hcall hbf HS hlen2
      clear HU
      have HU := Lib.hid HS
      clear HS hX hY
      have HL := Lib.hid (And.intro (hbl.2.lt (by omega)) (And.intro (hbf.1.lt (by omega)) (hbf.2.lt (by omega))))
      have HL0 := Lib.hid (hbl.1.lt (by omega))
      have HCALL := Lib.hid hcall
      have b2' : Blk wr (w.heap.size + 1 + 1) #[.bool e0, .int .u64 ((f0 : Nat) : Int), .int .u64 ((l0 : Nat) : Int)] 74 := b2
      have GI := Lib.hid gi
      obtain ⟨ty, xv, rfl⟩ := hti.isIface
      clear hcall hbl hbf hlen hlen2 gi b2 ht hti hri hlv hlv2 hv hrr hsz
      go_wp2_with fail
      refine HCALL.out.mono ?_
      rintro e w2 ⟨rfl, g2, k2⟩
      have hxw : x < w.heap.size := by have := g2.hB; omega
      have k2h := k2.size
      have hwsz := GI.out.sz
      have b22 := b2'.kp k2 (GI.out.mine (by omega) (.inl (by omega)))
      have b02 := b0.kp k2 (GI.out.mine (Nat.le_refl _) (.inl (by omega)))
      have h3 : Below w2.heap.size w2 (w2.alloc (.cells #[.bool e1, .int .u64 ((f1 : Nat) : Int), .int .u64 ((l1 : Nat) : Int)] 74)) := by go_grown
      have b5 := b22.below h3
      have n5 := b02.below h3
      have q5 := Blk.new w2 #[.bool e1, .int .u64 ((f1 : Nat) : Int), .int .u64 ((l1 : Nat) : Int)] 74
      have g4 := g2.below h3
      have hKw2 : w.heap.size + 1 + 1 < w2.heap.size := by omega
      have P5 := Lib.hid (And.intro g4 (And.intro b5 (And.intro q5 n5)))
      clear g2 b5 n5 q5 b22 b02 k2 h3 b2' b0 g4
      unfold EnV
      go_upto_region 30 with fail
      generalize w2.alloc (.cells #[.bool e1, .int .u64 ((f1 : Nat) : Int), .int .u64 ((l1 : Nat) : Int)] 74) = w4 at *
      obtain ⟨g4, b5, q5, n5⟩ := P5.out
      clear P5 HCALL
      generalize hw2 : w2.heap.size = E2 at *
      clear hw2 w2
      have hor1 : bits BinOp.or IntKind.u64 ((f0 : Nat) : Int) ((f1 : Nat) : Int) = ((f0 ||| f1 : Nat) : Int) := bits_or_u64_nat _ _ HL0.out HL.out.2.1
      have hor2 : bits BinOp.or IntKind.u64 ((l0 : Nat) : Int) ((l1 : Nat) : Int) = ((l0 ||| l1 : Nat) : Int) := bits_or_u64_nat _ _ HL.out.1 HL.out.2.2
      have y0 := b5.cell 0
      have y1 := b5.cell 1
      have y2 := b5.cell 2
      have v0 := q5.cell 0
      have v1 := q5.cell 1
      have v2 := q5.cell 2
      have z0 := b5.frozen 0
      have z1 := b5.frozen 1
      have z2 := b5.frozen 2
      have g7 := ((g4.set b5 (by decide) (by decide) (by omega) 0 (.bool (e0 || e1))).set (b5.set 0 (.bool (e0 || e1))) (by decide) (by decide) (by omega) 1 (.int .u64 ((f0 ||| f1 : Nat) : Int))).set ((b5.set 0 (.bool (e0 || e1))).set 1 (.int .u64 ((f0 ||| f1 : Nat) : Int))) (by decide) (by decide) (by omega) 2 (.int .u64 ((l0 ||| l1 : Nat) : Int))
      have b7 : Blk _ (w.heap.size + 1 + 1) #[.bool (e0 || e1), .int .u64 ((f0 ||| f1 : Nat) : Int), .int .u64 ((l0 ||| l1 : Nat) : Int)] 74 := ((b5.set 0 (.bool (e0 || e1))).set 1 (.int .u64 ((f0 ||| f1 : Nat) : Int))).set 2 (.int .u64 ((l0 ||| l1 : Nat) : Int))
      have n7 := ((n5.other ⟨w.heap.size + 1 + 1, 0, none⟩ (.bool (e0 || e1)) (show w.heap.size ≠ _ by simp only; omega)).other ⟨w.heap.size + 1 + 1, 1, none⟩ (.int .u64 ((f0 ||| f1 : Nat) : Int)) (show w.heap.size ≠ _ by simp only; omega)).other ⟨w.heap.size + 1 + 1, 2, none⟩ (.int .u64 ((l0 ||| l1 : Nat) : Int)) (show w.heap.size ≠ _ by simp only; omega)
      have P7 := Lib.hid (And.intro g7 (And.intro b7 n7))
      clear g7 b7 n7 g4 b5 q5 n5
      cases e0 with
      | true =>
        go_wp2
        go_roundw
        case rel => exact ⟨i + 1, rfl, by omega, by rw [HU.out]; exact P7.out.1, P7.out.2.2, by rw [HU.out]; exact P7.out.2.1⟩
        case measure => simp [intOf]; omega
      | false =>
        go_wp2
        go_roundw
        case rel => exact ⟨i + 1, rfl, by omega, by rw [HU.out]; exact P7.out.1, P7.out.2.2, by rw [HU.out]; exact P7.out.2.1⟩
        case measure => simp [intOf]; omega
end Go.Proofs.YtlocogccjlecjaaDoor
