import Derived.Test.YtlocogccjlecjaaDoorRdA
/- read: the places between two parts; a row. -/
namespace Go.Proofs.YtlocogccjlecjaaDoor
open Go.RowKit
theorem takeSucc {α : Type} {l : List α} {i : Nat} {x : α} (h : l[i]? = some x) : l.take (i + 1) = l.take i ++ [x] := by
  rw [List.take_add_one, h]; rfl
/-- what a call changes, by blocks: those of the places that are there -/
def Ch (B x H : Nat) (S : Nat → Prop) (n z : Nat) : Prop := z = x ∨ (B ≤ z ∧ (S z ∨ H ≤ z) ∧ z < n)
/-- within read: the places; blocks below H are this call's own -/
structure Rg (B x H : Nat) (S : Nat → Prop) (rs fs : List Nat) (w0 w : World) : Prop where
  pl : Pl B x (fun z => S z ∨ H ≤ z) w rs fs
  kp : Kp (fun z => z = x ∨ (B ≤ z ∧ S z)) w0 w
  sz : H ≤ w.heap.size
  hH : w0.heap.size ≤ H
  hS : ∀ z, S z → z < w0.heap.size
  hx : x < B
  hB : B ≤ w0.heap.size
section
variable {B x H : Nat} {S : Nat → Prop} {rs fs : List Nat} {w0 w w' : World}
theorem Rg.mine (h : Rg B x H S rs fs w0 w) {z n : Nat} (h1 : w0.heap.size ≤ z) (h2 : z < H ∨ n ≤ z) : ¬ Ch B x H S n z := by
  have := h.hx
  have := h.hB
  rintro (e | ⟨_, e | e, e2⟩)
  · omega
  · have := h.hS z e; omega
  · omega
theorem Rg.trees (h : Rg B x H S rs fs w0 w) {n b : Nat} (hb : b < x) : ¬ Ch B x H S n b := by
  have := h.hx
  rintro (e | ⟨e, _⟩) <;> omega
theorem Rg.zero (h : Rg B x H S rs fs w0 w) (hx0 : 0 < x) {n : Nat} : ¬ Ch B x H S n 0 := h.trees hx0
theorem Rg.next (h : Rg B x H S rs fs w0 w) {n : Nat} {wm : World} (hm : Below w.heap.size w wm) (hk : Kp (Ch B x H S n) wm w') : Kp (fun z => z = x ∨ (B ≤ z ∧ S z)) w0 w' :=
  (h.kp.below hm).step hk (fun k hl e => e.imp id (fun ⟨a, b, _⟩ => ⟨a, b.resolve_right (by have := h.hH; omega)⟩))
theorem Rg.below (h : Rg B x H S rs fs w0 w) (hb : Below w.heap.size w w') : Rg B x H S rs fs w0 w' :=
  ⟨h.pl.below hb, h.kp.below hb, Nat.le_trans h.sz hb.size, h.hH, h.hS, h.hx, h.hB⟩
theorem Pl.set (h : Pl B x S w rs fs) {E : Nat} {c : Array Value} {t : TypeId} (hE : Blk w E c t) (h1 : t ≠ 84) (h2 : t ≠ 72) (hx : x ≠ E) (i : Nat) (u : Value) : Pl B x S (w.setCell ⟨E, i, none⟩ u) rs fs := by
  obtain ⟨rA, rc, fA, fc, n, a1, a2, a3, a4, a5, a6, a7, a8⟩ := h
  exact ⟨rA, rc, fA, fc, n, a1, a2, a3.other _ _ hx, own_set_other a4 E i u (hE.not_row h1 a4), own_set_other a5 E i u (hE.not_row h2 a5), a6, a7, a8⟩
theorem Rg.set (h : Rg B x H S rs fs w0 w) {E : Nat} {c : Array Value} {t : TypeId} (hE : Blk w E c t) (h1 : t ≠ 84) (h2 : t ≠ 72) (h3 : w0.heap.size ≤ E) (i : Nat) (u : Value) : Rg B x H S rs fs w0 (w.setCell ⟨E, i, none⟩ u) :=
  ⟨h.pl.set hE h1 h2 (by have := h.hx; have := h.hB; omega) i u, h.kp.set E i u (fun hl => absurd hl (by omega)), by simpa using h.sz, h.hH, h.hS, h.hx, h.hB⟩
theorem Rg.call (h : Rg B x H S rs fs w0 w) {r : Rx} (hc : RdC B x r) {v : Value} (ht : Tr (fun b => b < x) w v r) (hl : rs.length + leaves r ≤ 64) (hT : Tab w) (hz : r.sz ≤ 1000) :
    Calls Tryd.prog 28 #[.pointer (some ⟨x, 0, none⟩), v] w fun e w' => e = .returned (EnV (rdF r rs fs).1) ∧ Rg B x H S (rdF r rs fs).2.1 (rdF r rs fs).2.2 w0 w' ∧ Kp (Ch B x H S w.heap.size) w w' := by
  have hBw : B ≤ w.heap.size := Nat.le_trans h.hB h.kp.size
  refine (hc (fun z => (S z ∨ H ≤ z) ∧ z < w.heap.size) v rs fs w ht hBw (h.pl.mono (fun z hz e => ⟨e, hz⟩)) (fun z e => e.2) hl hT hz).mono ?_
  rintro e w' ⟨rfl, hp, hk⟩
  have hk2 : Kp (Ch B x H S w.heap.size) w w' := hk
  refine ⟨rfl, ⟨hp.mono (fun z _ e => ?_), h.next (Below.refl _ _) hk2, Nat.le_trans h.sz hk.size, h.hH, h.hS, h.hx, h.hB⟩, hk2⟩
  have := h.sz
  rcases e with e | e
  · exact e.1
  · right; omega
theorem Rg.link (h : Rg B x H S rs fs w0 w) {wm : World} (hm : Below w.heap.size w wm) {a b : Nat} (ha : a < 18446744073709551616) (hb : b < 18446744073709551616) (hab : ∀ j, a.testBit j = true → j < rs.length) (hT : Tab wm) :
    Calls Tryd.prog 43 #[.pointer (some ⟨x, 0, none⟩), .int .u64 ((a : Nat) : Int), .int .u64 ((b : Nat) : Int)] wm fun e w' => e = .returned (.tuple #[]) ∧ Rg B x H S rs (linkF fs a b) w0 w' ∧ Kp (Ch B x H S w.heap.size) wm w' := by
  have hp : Pl B x (fun z => (S z ∨ H ≤ z) ∧ z < w.heap.size) wm rs fs := (h.pl.mono (fun z hz e => ⟨e, hz⟩)).below hm
  refine (link_pl hp h.hx ha hb hab hT).mono ?_
  rintro e w' ⟨rfl, hp, hk⟩
  have hk2 : Kp (Ch B x H S w.heap.size) wm w' := hk
  exact ⟨rfl, ⟨hp.mono (fun z _ e => e.1), h.next hm hk2, Nat.le_trans h.sz (Nat.le_trans hm.size hk.size), h.hH, h.hS, h.hx, h.hB⟩, hk2⟩
/-- the answer -/
theorem Rg.post {t : Rx} (h : Rg B x H S (rdF t rs fs).2.1 (rdF t rs fs).2.2 w0 w) : RdPost B x S t rs fs w0 (.returned (EnV (rdF t rs fs).1)) w :=
  ⟨rfl, h.pl.mono (fun _ _ e => e.imp id (fun e => Nat.le_trans h.hH e)), h.kp⟩
end
theorem Tab.ch {B x H n : Nat} {S : Nat → Prop} {rs fs : List Nat} {w0 w wa wb : World} (h : Rg B x H S rs fs w0 w) (hx0 : 0 < x) (hT : Tab wa) (hk : Kp (Ch B x H S n) wa wb) : Tab wb := hT.kp hk (h.zero hx0)
def rowU (ts : List Rx) (i : Nat) : Rx := (ts.take i).foldl Rx.seq .eps
theorem rowU_succ {ts : List Rx} {i : Nat} {r : Rx} (h : ts[i]? = some r) : rowU ts (i + 1) = .seq (rowU ts i) r := by
  unfold rowU; rw [takeSucc h, List.foldl_append]; rfl
theorem rowU_all {ts : List Rx} {i : Nat} (h : ts.length ≤ i) : rowU ts i = ts.foldl Rx.seq .eps := by
  unfold rowU; rw [List.take_of_length_le h]
theorem leaves_foldl_seq (l : List Rx) : ∀ a, leaves a ≤ leaves (l.foldl Rx.seq a) := by
  induction l with
  | nil => intro a; exact Nat.le_refl _
  | cons x l ih => intro a; exact Nat.le_trans (show leaves a ≤ leaves (.seq a x) by simp [leaves]) (ih _)
theorem leaves_rowU (ts : List Rx) (i : Nat) : leaves (rowU ts i) ≤ leaves (ts.foldl Rx.seq .eps) := by
  have h := leaves_foldl_seq (ts.drop i) (rowU ts i)
  unfold rowU at h ⊢
  rw [← List.foldl_append, List.take_append_drop] at h
  exact h
theorem sz_foldl_seq (l : List Rx) : ∀ a : Rx, a.sz + l.length ≤ (l.foldl Rx.seq a).sz := by
  induction l with
  | nil => intro a; exact Nat.le_refl _
  | cons x l ih => intro a; have := ih (.seq a x); simp only [Rx.sz, List.foldl_cons, List.length_cons] at this ⊢; omega
/-- the cells of the type 'ends' -/
def enC (e : En) : Array Value := #[.bool e.e, .int .u64 ((e.f : Nat) : Int), .int .u64 ((e.l : Nat) : Int)]
set_option maxRecDepth 100000 in
set_option maxHeartbeats 8000000 in
/-- read: a row -/
theorem read_row (B x : Nat) (hx : x < B) (hx0 : 0 < x) (t : Rx) (ih : ∀ r : Rx, r.sz < t.sz → RdC B x r) (S : Nat → Prop) (A : Option Addr) (n c : Nat) (vs : List Value) (rs fs : List Nat) (w : World) (hn : vs.length = n) (hr : Rp (fun b => b < x) w A vs) (hrow : RowT (fun b => b < x) w vs t)
    (hB : B ≤ w.heap.size) (hp : Pl B x S w rs fs) (hS : ∀ z, S z → z < w.heap.size) (hl : rs.length + leaves t ≤ 64) (hT : Tab w) (hz : t.sz ≤ 1000) :
    Calls Tryd.prog 28 #[.pointer (some ⟨x, 0, none⟩), .iface 121 (.agg #[.slice A n c])] w fun e w' => RdPost B x S t rs fs w e w' := by
  obtain ⟨ts, hts, rfl, hel⟩ := hrow.list
  have hn2 : n ≤ 1000 := by have := sz_foldl_seq ts .eps; omega
  have hf1 : ∀ w : World, (Instr.typeAssert (.iface 121 (.agg #[.slice A n c])) 64 118 true).run Tryd.prog w = .ok (.tuple #[.agg #[.int .u64 0, .int .u64 0, .int .u64 0, .int .u64 0], .bool false]) w := fun _ => by kernel_rfl
  have hf2 : ∀ w : World, (Instr.typeAssert (.iface 121 (.agg #[.slice A n c])) 64 121 true).run Tryd.prog w = .ok (.tuple #[.agg #[.slice A n c], .bool true]) w := fun _ => by kernel_rfl
  have q0 := ((Blk.new w #[.bool false, .int .u64 0, .int .u64 0] 74).alloc (.cells #[.slice A n c] 121)).alloc (.cells #[.bool true, .int .u64 0, .int .u64 0] 74)
  have q1 := (Blk.new (w.alloc (.cells #[.bool false, .int .u64 0, .int .u64 0] 74)) #[.slice A n c] 121).alloc (.cells #[.bool true, .int .u64 0, .int .u64 0] 74)
  have q2 := Blk.new ((w.alloc (.cells #[.bool false, .int .u64 0, .int .u64 0] 74)).alloc (.cells #[.slice A n c] 121)) #[.bool true, .int .u64 0, .int .u64 0] 74
  simp only [World.size_alloc] at q1 q2
  have hb : Below w.heap.size w (((w.alloc (.cells #[.bool false, .int .u64 0, .int .u64 0] 74)).alloc (.cells #[.slice A n c] 121)).alloc (.cells #[.bool true, .int .u64 0, .int .u64 0] 74)) := by go_grown
  have g0 : Rg B x (w.heap.size + 1 + 1 + 1) S rs fs w (((w.alloc (.cells #[.bool false, .int .u64 0, .int .u64 0] 74)).alloc (.cells #[.slice A n c] 121)).alloc (.cells #[.bool true, .int .u64 0, .int .u64 0] 74)) :=
    ⟨(hp.below hb).mono (fun z _ h => .inl h), .of_below hb, by simp, by omega, hS, hx, hB⟩
  have F := Lib.hid (And.intro hel (And.intro hr (And.intro hl (And.intro hT ih))))
  have HTS := Lib.hid hts
  have HN := Lib.hid hn
  have HZ := Lib.hid hz
  clear hel hr hl hT ih hp hS hrow hb hts hn hz
  go_enter Tryd.func28, Tryd.ntmps28
  go_wp2
  generalize hW : ((w.alloc (.cells #[.bool false, .int .u64 0, .int .u64 0] 74)).alloc (.cells #[.slice A n c] 121)).alloc (.cells #[.bool true, .int .u64 0, .int .u64 0] 74) = W at *
  clear hW
  go_loopw [59] (fun iv wr => ∃ i : Nat, iv = .int .i64 ((i : Nat) : Int) ∧ i ≤ n ∧ Rg B x (w.heap.size + 1 + 1 + 1) S (rdF (rowU ts i) rs fs).2.1 (rdF (rowU ts i) rs fs).2.2 w wr ∧ Blk wr w.heap.size #[.bool false, .int .u64 0, .int .u64 0] 74 ∧ Blk wr (w.heap.size + 1 + 1) (enC (rdF (rowU ts i) rs fs).1) 74) (fun iv _ => n - (intOf iv).toNat)
  case atStart => exact ⟨0, rfl, by omega, g0, q0, q2⟩
  case round =>
    clear g0 q0 q1 q2
    obtain ⟨i, rfl, hin, gi, b0, b2⟩ := hrel
    by_cases hi : i = n
    · subst hi
      have hfin := rowU_all (ts := ts) (i := i) (by have := HN.out; have := HTS.out; omega)
      rw [hfin] at gi b2
      have HW := Lib.hid gi
      clear gi hfin
      generalize hX : rdF (ts.foldl Rx.seq .eps) rs fs = X at b2
      obtain ⟨⟨e0, f0, l0⟩, rs0, fs0⟩ := X
      have z0 : wr.cell? ⟨w.heap.size + 1 + 1, 0, none⟩ = some (.bool e0) := b2.cell 0
      have z1 : wr.cell? ⟨w.heap.size + 1 + 1, 1, none⟩ = some (.int .u64 ((f0 : Nat) : Int)) := b2.cell 1
      have z2 : wr.cell? ⟨w.heap.size + 1 + 1, 2, none⟩ = some (.int .u64 ((l0 : Nat) : Int)) := b2.cell 2
      have y0 := b0.cell 0
      have y1 := b0.cell 1
      have y2 := b0.cell 2
      have v0 := b0.frozen 0
      have v1 := b0.frozen 1
      have v2 := b0.frozen 2
      have g3 := (((HW.out.set b0 (by decide) (by decide) (Nat.le_refl _) 0 (.bool e0)).set (b0.set 0 (.bool e0)) (by decide) (by decide) (Nat.le_refl _) 1 (.int .u64 ((f0 : Nat) : Int))).set ((b0.set 0 (.bool e0)).set 1 (.int .u64 ((f0 : Nat) : Int))) (by decide) (by decide) (Nat.le_refl _) 2 (.int .u64 ((l0 : Nat) : Int)))
      have c3 : Blk _ w.heap.size #[.bool e0, .int .u64 ((f0 : Nat) : Int), .int .u64 ((l0 : Nat) : Int)] 74 := ((b0.set 0 (.bool e0)).set 1 (.int .u64 ((f0 : Nat) : Int))).set 2 (.int .u64 ((l0 : Nat) : Int))
      have P3 := Lib.hid (And.intro g3 (And.intro c3 hX))
      clear g3 c3 b0 b2 hX HW
      go_wp2
      generalize ((wr.setCell ⟨w.heap.size, 0, none⟩ (.bool e0)).setCell ⟨w.heap.size, 1, none⟩ (.int .u64 ((f0 : Nat) : Int))).setCell ⟨w.heap.size, 2, none⟩ (.int .u64 ((l0 : Nat) : Int)) = wf at *
      obtain ⟨g3, c3, hX⟩ := P3.out
      have x0 : wf.cell? ⟨w.heap.size, 0, none⟩ = some (.bool e0) := c3.cell 0
      have x1 : wf.cell? ⟨w.heap.size, 1, none⟩ = some (.int .u64 ((f0 : Nat) : Int)) := c3.cell 1
      have x2 : wf.cell? ⟨w.heap.size, 2, none⟩ = some (.int .u64 ((l0 : Nat) : Int)) := c3.cell 2
      simp [bodyPost, results, Tryd.results28, go_sem, x0, x1, x2]
      have h := g3.post
      rw [hX] at h
      exact h
    · have hlt : ((i : Nat) : Int) < ((n : Nat) : Int) := by omega
      obtain ⟨v, hv⟩ : ∃ v, vs[i]? = some v := ⟨_, List.getElem?_eq_getElem (by have := HN.out; omega)⟩
      obtain ⟨r, hrr⟩ : ∃ r, ts[i]? = some r := ⟨_, List.getElem?_eq_getElem (by have := HN.out; have := HTS.out; omega)⟩
      obtain ⟨ht, hsz⟩ := F.out.1 i v r hv hrr
      have hti : Tr (fun b => b < x) wr v r := ht.kp gi.kp (fun b _ hb e => by have := gi.hx; omega) (fun b _ h => h)
      have hri := (F.out.2.1.kp gi.kp (fun b _ hb e => by have := gi.hx; omega)).rd
      obtain ⟨g, o, rfl, hel0⟩ := hri.at i (lt_of_some hv)
      rw [← List.getElem?_eq_getElem (lt_of_some hv), hv] at hel0
      have hTr : Tab wr := F.out.2.2.2.1.kp gi.kp (by have := gi.hx; have := gi.hB; omega)
      have HU := Lib.hid (rowU_succ hrr)
      have hlv := leaves_rowU ts (i + 1)
      rw [HU.out] at hlv
      have hlv2 := F.out.2.2.1
      simp only [leaves] at hlv
      have hlen := rdF_len (rowU ts i) rs fs
      have hbl := (rdF_bits (rowU ts i) rs fs)
      have hbf := (rdF_bits r (rdF (rowU ts i) rs fs).2.1 (rdF (rowU ts i) rs fs).2.2)
      have hlen2 := rdF_len r (rdF (rowU ts i) rs fs).2.1 (rdF (rowU ts i) rs fs).2.2
      have hcall := gi.call (F.out.2.2.2.2 r hsz) hti (by omega) hTr (by have := HZ.out; omega)
      obtain ⟨⟨e0, f0, l0⟩, rs0, fs0, hX⟩ : ∃ a b c, rdF (rowU ts i) rs fs = (a, b, c) := ⟨_, _, _, rfl⟩
      have HS : rdF (rowU ts (i + 1)) rs fs = rdF (.seq (rowU ts i) r) rs fs := by rw [HU.out]
      simp only [rdF] at HS
      rw [hX] at gi b2 hcall hlen hbl hbf HS hlen2
      simp only at gi b2 hcall hlen hbl hbf HS hlen2
      obtain ⟨⟨e1, f1, l1⟩, rs1, fs1, hY⟩ : ∃ a b c, rdF r rs0 fs0 = (a, b, c) := ⟨_, _, _, rfl⟩
      rw [hY] at hcall hbf HS hlen2
      simp only at hcall hbf HS hlen2
      clear HU
      have HU := Lib.hid HS
      clear HS hX hY
      have HL := Lib.hid (And.intro (hbl.2.lt (by omega)) (And.intro (hbf.1.lt (by omega)) (hbf.2.lt (by omega))))
      have HL0 := Lib.hid (hbl.1.lt (by omega))
      have HAB := Lib.hid (show ∀ j, l0.testBit j = true → j < rs1.length from fun j hj => by have := (hbl.2 j hj).2; omega)
      have HCALL := Lib.hid hcall
      have b2' : Blk wr (w.heap.size + 1 + 1) #[.bool e0, .int .u64 ((f0 : Nat) : Int), .int .u64 ((l0 : Nat) : Int)] 74 := b2
      have GI := Lib.hid gi
      obtain ⟨ty, xv, rfl⟩ := hti.isIface
      clear hcall hbl hbf hlen hlen2 gi b2 ht hti hri hlv hlv2 hv hrr hsz
      go_wp2_with fail
      refine HCALL.out.mono ?_
      rintro e w2 ⟨rfl, g2, k2⟩
      have hxw : x < w.heap.size := by have := g2.hB; omega
      have k2h := k2.size
      have hwsz := GI.out.sz
      have b22 := b2'.kp k2 (GI.out.mine (by omega) (.inl (by omega)))
      have b02 := b0.kp k2 (GI.out.mine (Nat.le_refl _) (.inl (by omega)))
      have hT2 := hTr.kp k2 (GI.out.zero hx0)
      have h3 : Below w2.heap.size w2 (w2.alloc (.cells #[.bool e1, .int .u64 ((f1 : Nat) : Int), .int .u64 ((l1 : Nat) : Int)] 74)) := by go_grown
      have b23 := b22.below h3
      have b03 := b02.below h3
      have q3 := Blk.new w2 #[.bool e1, .int .u64 ((f1 : Nat) : Int), .int .u64 ((l1 : Nat) : Int)] 74
      have hT3 : Tab (w2.alloc (.cells #[.bool e1, .int .u64 ((f1 : Nat) : Int), .int .u64 ((l1 : Nat) : Int)] 74)) := hT2.kp (.of_below (S := fun _ => False) h3) (fun e => e)
      have HLINK := Lib.hid (g2.link h3 HL.out.1 HL.out.2.1 HAB.out hT3)
      have hKw2 : w.heap.size + 1 + 1 < w2.heap.size := by omega
      have y2 : (w2.alloc (.cells #[.bool e1, .int .u64 ((f1 : Nat) : Int), .int .u64 ((l1 : Nat) : Int)] 74)).cell? ⟨w.heap.size + 1 + 1, 2, none⟩ = some (.int .u64 ((l0 : Nat) : Int)) := b23.cell 2
      have v1 : (w2.alloc (.cells #[.bool e1, .int .u64 ((f1 : Nat) : Int), .int .u64 ((l1 : Nat) : Int)] 74)).cell? ⟨w2.heap.size, 1, none⟩ = some (.int .u64 ((f1 : Nat) : Int)) := q3.cell 1
      have GH := Lib.hid (And.intro g2 (And.intro b23 (And.intro b03 q3)))
      clear g2 b23 b03 q3 b22 b02 k2 hT2 hT3 h3 b2' b0
      unfold EnV
      go_wp2_with fail
      refine HLINK.out.mono ?_
      rintro e w4 ⟨rfl, g4, k4⟩
      obtain ⟨g2, b23, b03, q3⟩ := GH.out
      have b5 := b23.kp k4 (g2.mine (by omega) (.inl (by omega)))
      have n5 := b03.kp k4 (g2.mine (Nat.le_refl _) (.inl (by omega)))
      have q5 := q3.kp k4 (g2.mine (by omega) (.inr (Nat.le_refl _)))
      clear y2 v1 g2 b23 b03 q3 k4 GH HLINK HCALL
      generalize hw2 : w2.heap.size = E2 at *
      clear hw2 w2
      cases e0 with
      | true =>
        have hor1 : bits BinOp.or IntKind.u64 ((f0 : Nat) : Int) ((f1 : Nat) : Int) = ((f0 ||| f1 : Nat) : Int) := bits_or_u64_nat _ _ HL0.out HL.out.2.1
        have y0 := b5.cell 0
        have y1 := b5.cell 1
        have v1 := q5.cell 1
        have fz := b5.frozen 1
        have g6 := g4.set b5 (by decide) (by decide) (by omega) 1 (.int .u64 ((f0 ||| f1 : Nat) : Int))
        have b6 : Blk _ (w.heap.size + 1 + 1) #[.bool true, .int .u64 ((f0 ||| f1 : Nat) : Int), .int .u64 ((l0 : Nat) : Int)] 74 := b5.set 1 (.int .u64 ((f0 ||| f1 : Nat) : Int))
        have q6 := q5.other ⟨w.heap.size + 1 + 1, 1, none⟩ (.int .u64 ((f0 ||| f1 : Nat) : Int)) (show E2 ≠ _ by simp only; omega)
        have n6 := n5.other ⟨w.heap.size + 1 + 1, 1, none⟩ (.int .u64 ((f0 ||| f1 : Nat) : Int)) (show w.heap.size ≠ _ by simp only; omega)
        have P5 := Lib.hid (And.intro g6 (And.intro b6 (And.intro q6 n6)))
        clear g6 b6 q6 n6 g4 b5 q5 n5
        go_upto_region 17 with fail
        generalize w4.setCell ⟨w.heap.size + 1 + 1, 1, none⟩ (.int .u64 ((f0 ||| f1 : Nat) : Int)) = w5 at *
        obtain ⟨g5, b5, q5, n5⟩ := P5.out
        clear P5 y0 y1 v1 fz w4
        cases e1 with
        | true =>
          have hor2 : bits BinOp.or IntKind.u64 ((l0 : Nat) : Int) ((l1 : Nat) : Int) = ((l0 ||| l1 : Nat) : Int) := bits_or_u64_nat _ _ HL.out.1 HL.out.2.2
          have y0 := b5.cell 0
          have y2 := b5.cell 2
          have v0 := q5.cell 0
          have v2 := q5.cell 2
          have fz := b5.frozen 2
          have g6 := g5.set b5 (by decide) (by decide) (by omega) 2 (.int .u64 ((l0 ||| l1 : Nat) : Int))
          have b6 : Blk _ (w.heap.size + 1 + 1) #[.bool true, .int .u64 ((f0 ||| f1 : Nat) : Int), .int .u64 ((l0 ||| l1 : Nat) : Int)] 74 := b5.set 2 (.int .u64 ((l0 ||| l1 : Nat) : Int))
          have q6 := q5.other ⟨w.heap.size + 1 + 1, 2, none⟩ (.int .u64 ((l0 ||| l1 : Nat) : Int)) (show E2 ≠ _ by simp only; omega)
          have n6 := n5.other ⟨w.heap.size + 1 + 1, 2, none⟩ (.int .u64 ((l0 ||| l1 : Nat) : Int)) (show w.heap.size ≠ _ by simp only; omega)
          have P6 := Lib.hid (And.intro g6 (And.intro b6 (And.intro q6 n6)))
          clear g6 b6 q6 n6 g5 b5 q5 n5
          go_upto_region 20 with fail
          generalize w5.setCell ⟨w.heap.size + 1 + 1, 2, none⟩ (.int .u64 ((l0 ||| l1 : Nat) : Int)) = w6 at *
          obtain ⟨g6, b6, q6, n6⟩ := P6.out
          clear P6 y0 y2 v0 v2 fz
          have y0 := b6.cell 0
          have v0 := q6.cell 0
          have fz := b6.frozen 0
          have g7 := g6.set b6 (by decide) (by decide) (by omega) 0 (.bool true)
          have b7 : Blk _ (w.heap.size + 1 + 1) #[.bool true, .int .u64 ((f0 ||| f1 : Nat) : Int), .int .u64 ((l0 ||| l1 : Nat) : Int)] 74 := b6.set 0 (.bool true)
          have n7 := n6.other ⟨w.heap.size + 1 + 1, 0, none⟩ (.bool true) (show w.heap.size ≠ _ by simp only; omega)
          have P7 := Lib.hid (And.intro g7 (And.intro b7 n7))
          clear g7 b7 n7 g6 b6 q6 n6
          go_wp2
          go_roundw
          case rel => exact ⟨i + 1, rfl, by omega, by rw [HU.out]; exact P7.out.1, P7.out.2.2, by rw [HU.out]; exact P7.out.2.1⟩
          case measure => simp [intOf]; omega
        | false =>
          have hor2 : bits BinOp.or IntKind.u64 ((l0 : Nat) : Int) ((l1 : Nat) : Int) = ((l0 ||| l1 : Nat) : Int) := bits_or_u64_nat _ _ HL.out.1 HL.out.2.2
          have y0 := b5.cell 0
          have y2 := b5.cell 2
          have v0 := q5.cell 0
          have v2 := q5.cell 2
          have fz := b5.frozen 2
          have g6 := g5.set b5 (by decide) (by decide) (by omega) 2 (.int .u64 ((l1 : Nat) : Int))
          have b6 : Blk _ (w.heap.size + 1 + 1) #[.bool true, .int .u64 ((f0 ||| f1 : Nat) : Int), .int .u64 ((l1 : Nat) : Int)] 74 := b5.set 2 (.int .u64 ((l1 : Nat) : Int))
          have q6 := q5.other ⟨w.heap.size + 1 + 1, 2, none⟩ (.int .u64 ((l1 : Nat) : Int)) (show E2 ≠ _ by simp only; omega)
          have n6 := n5.other ⟨w.heap.size + 1 + 1, 2, none⟩ (.int .u64 ((l1 : Nat) : Int)) (show w.heap.size ≠ _ by simp only; omega)
          have P6 := Lib.hid (And.intro g6 (And.intro b6 (And.intro q6 n6)))
          clear g6 b6 q6 n6 g5 b5 q5 n5
          go_upto_region 20 with fail
          generalize w5.setCell ⟨w.heap.size + 1 + 1, 2, none⟩ (.int .u64 ((l1 : Nat) : Int)) = w6 at *
          obtain ⟨g6, b6, q6, n6⟩ := P6.out
          clear P6 y0 y2 v0 v2 fz
          have y0 := b6.cell 0
          have v0 := q6.cell 0
          have fz := b6.frozen 0
          have g7 := g6.set b6 (by decide) (by decide) (by omega) 0 (.bool false)
          have b7 : Blk _ (w.heap.size + 1 + 1) #[.bool false, .int .u64 ((f0 ||| f1 : Nat) : Int), .int .u64 ((l1 : Nat) : Int)] 74 := b6.set 0 (.bool false)
          have n7 := n6.other ⟨w.heap.size + 1 + 1, 0, none⟩ (.bool false) (show w.heap.size ≠ _ by simp only; omega)
          have P7 := Lib.hid (And.intro g7 (And.intro b7 n7))
          clear g7 b7 n7 g6 b6 q6 n6
          go_wp2
          go_roundw
          case rel => exact ⟨i + 1, rfl, by omega, by rw [HU.out]; exact P7.out.1, P7.out.2.2, by rw [HU.out]; exact P7.out.2.1⟩
          case measure => simp [intOf]; omega
      | false =>
        have y0 := b5.cell 0
        have P5 := Lib.hid (And.intro g4 (And.intro b5 (And.intro q5 n5)))
        clear g4 b5 q5 n5
        go_upto_region 17 with fail
        obtain ⟨g5, b5, q5, n5⟩ := P5.out
        clear P5 y0
        generalize w4 = w5 at *
        cases e1 with
        | true =>
          have hor2 : bits BinOp.or IntKind.u64 ((l0 : Nat) : Int) ((l1 : Nat) : Int) = ((l0 ||| l1 : Nat) : Int) := bits_or_u64_nat _ _ HL.out.1 HL.out.2.2
          have y0 := b5.cell 0
          have y2 := b5.cell 2
          have v0 := q5.cell 0
          have v2 := q5.cell 2
          have fz := b5.frozen 2
          have g6 := g5.set b5 (by decide) (by decide) (by omega) 2 (.int .u64 ((l0 ||| l1 : Nat) : Int))
          have b6 : Blk _ (w.heap.size + 1 + 1) #[.bool false, .int .u64 ((f0 : Nat) : Int), .int .u64 ((l0 ||| l1 : Nat) : Int)] 74 := b5.set 2 (.int .u64 ((l0 ||| l1 : Nat) : Int))
          have q6 := q5.other ⟨w.heap.size + 1 + 1, 2, none⟩ (.int .u64 ((l0 ||| l1 : Nat) : Int)) (show E2 ≠ _ by simp only; omega)
          have n6 := n5.other ⟨w.heap.size + 1 + 1, 2, none⟩ (.int .u64 ((l0 ||| l1 : Nat) : Int)) (show w.heap.size ≠ _ by simp only; omega)
          have P6 := Lib.hid (And.intro g6 (And.intro b6 (And.intro q6 n6)))
          clear g6 b6 q6 n6 g5 b5 q5 n5
          go_upto_region 20 with fail
          generalize w5.setCell ⟨w.heap.size + 1 + 1, 2, none⟩ (.int .u64 ((l0 ||| l1 : Nat) : Int)) = w6 at *
          obtain ⟨g6, b6, q6, n6⟩ := P6.out
          clear P6 y0 y2 v0 v2 fz
          have y0 := b6.cell 0
          have v0 := q6.cell 0
          have fz := b6.frozen 0
          have g7 := g6.set b6 (by decide) (by decide) (by omega) 0 (.bool false)
          have b7 : Blk _ (w.heap.size + 1 + 1) #[.bool false, .int .u64 ((f0 : Nat) : Int), .int .u64 ((l0 ||| l1 : Nat) : Int)] 74 := b6.set 0 (.bool false)
          have n7 := n6.other ⟨w.heap.size + 1 + 1, 0, none⟩ (.bool false) (show w.heap.size ≠ _ by simp only; omega)
          have P7 := Lib.hid (And.intro g7 (And.intro b7 n7))
          clear g7 b7 n7 g6 b6 q6 n6
          go_wp2
          go_roundw
          case rel => exact ⟨i + 1, rfl, by omega, by rw [HU.out]; exact P7.out.1, P7.out.2.2, by rw [HU.out]; exact P7.out.2.1⟩
          case measure => simp [intOf]; omega
        | false =>
          have hor2 : bits BinOp.or IntKind.u64 ((l0 : Nat) : Int) ((l1 : Nat) : Int) = ((l0 ||| l1 : Nat) : Int) := bits_or_u64_nat _ _ HL.out.1 HL.out.2.2
          have y0 := b5.cell 0
          have y2 := b5.cell 2
          have v0 := q5.cell 0
          have v2 := q5.cell 2
          have fz := b5.frozen 2
          have g6 := g5.set b5 (by decide) (by decide) (by omega) 2 (.int .u64 ((l1 : Nat) : Int))
          have b6 : Blk _ (w.heap.size + 1 + 1) #[.bool false, .int .u64 ((f0 : Nat) : Int), .int .u64 ((l1 : Nat) : Int)] 74 := b5.set 2 (.int .u64 ((l1 : Nat) : Int))
          have q6 := q5.other ⟨w.heap.size + 1 + 1, 2, none⟩ (.int .u64 ((l1 : Nat) : Int)) (show E2 ≠ _ by simp only; omega)
          have n6 := n5.other ⟨w.heap.size + 1 + 1, 2, none⟩ (.int .u64 ((l1 : Nat) : Int)) (show w.heap.size ≠ _ by simp only; omega)
          have P6 := Lib.hid (And.intro g6 (And.intro b6 (And.intro q6 n6)))
          clear g6 b6 q6 n6 g5 b5 q5 n5
          go_upto_region 20 with fail
          generalize w5.setCell ⟨w.heap.size + 1 + 1, 2, none⟩ (.int .u64 ((l1 : Nat) : Int)) = w6 at *
          obtain ⟨g6, b6, q6, n6⟩ := P6.out
          clear P6 y0 y2 v0 v2 fz
          have y0 := b6.cell 0
          have v0 := q6.cell 0
          have fz := b6.frozen 0
          have g7 := g6.set b6 (by decide) (by decide) (by omega) 0 (.bool false)
          have b7 : Blk _ (w.heap.size + 1 + 1) #[.bool false, .int .u64 ((f0 : Nat) : Int), .int .u64 ((l1 : Nat) : Int)] 74 := b6.set 0 (.bool false)
          have n7 := n6.other ⟨w.heap.size + 1 + 1, 0, none⟩ (.bool false) (show w.heap.size ≠ _ by simp only; omega)
          have P7 := Lib.hid (And.intro g7 (And.intro b7 n7))
          clear g7 b7 n7 g6 b6 q6 n6
          go_wp2
          go_roundw
          case rel => exact ⟨i + 1, rfl, by omega, by rw [HU.out]; exact P7.out.1, P7.out.2.2, by rw [HU.out]; exact P7.out.2.1⟩
          case measure => simp [intOf]; omega
end Go.Proofs.YtlocogccjlecjaaDoor
