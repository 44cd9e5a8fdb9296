import Derived.Test.YtobklhnechbpaaaEqv
namespace Go.Proofs.Ytobklhnechbpaaa
open Go.RowKit

section
variable {P : Program} {ops : Array Oper} {rest : List Oper} {o : Oper} {a : Act} {Q : Exit → Act → World → Prop}
/-- append of m elements that a literal holds, boxed right ahead -/
theorem appM {w0 W : World} (base : Nat) (hgd : o.guard = none) (s x : Operand) (t e : TypeId) (z : Value) (size bytes m : Nat)
    (ho : o.op = .call { callee := .builtin .append, args := #[s, x], argTypes := #[t, t] })
    (ht : P.underlying t = some (.slice e)) (hinfo : (P.info? e).map (fun i => (i.zero, i.size, i.bytes)) = some (some z, size, bytes)) (hzs : z.cells.size = size) (hsz : 0 < size) (hb0 : 0 < bytes) (hm : 0 < m)
    (v : Value) (n : Nat) (xs : List Value) (cs : Array Value) (hs : a.eval s = v) (hx : a.eval x = .slice (some ⟨W.heap.size, 0, none⟩) m m) (hl : cs.size = m * size) (h1 : ∀ u ∈ cs.toList, u.oneCell' = true)
    (HO : W.ownsRow base e size v n xs) (HB : Below base w0 W) (hbase : base ≤ W.heap.size) (hle : (n + m) * bytes ≤ 140737488355328)
    (h : ∀ g cap w1, w1.ownsRow base e size (.slice (some ⟨g, 0, none⟩) (n + m) cap) (n + m) (xs ++ cs.toList) → Below base w0 w1 → W.grownBy w1 v.ownBlock → (some g = v.ownBlock ∨ g = W.heap.size + 1) → n + m ≤ cap → wpList P ops Q rest (a.put o.dst (.slice (some ⟨g, 0, none⟩) (n + m) cap)) w1) :
    wpList P ops Q (o :: rest) a (W.alloc (.cells cs e)) := by
  obtain ⟨i0, hi, hzz⟩ := Option.map_eq_some_iff.1 hinfo
  simp only [Prod.mk.injEq] at hzz
  obtain ⟨hz0, hz1, hz2⟩ := hzz
  have hlen : n + m ≤ 140737488355328 := Nat.le_trans (Nat.le_mul_of_pos_right _ hb0) hle
  refine wpList_append_own_at (W.alloc (.cells cs e)) hgd s x t ho base e i0 z size bytes ht hi hz0 hz1 hz2 hzs hsz v n xs hs (HO.alloc _) ⟨W.heap.size, 0, none⟩ m m cs.toList hx (by simpa using hl)
    (World.news_of_block (cs := cs) (t := e) (fr := (0, 0)) (MapKept.heap_alloc W _).1) h1 (by simp only [maxLen]; omega) hle (by simp; omega) ?_
  intro v1 w1 hown hg _ hat
  rcases hown.2 with ⟨_, h0⟩ | ⟨g, cap, cur, rfl, _, _, hc, _⟩
  · omega
  · refine h g cap w1 hown ((HB.alloc hbase _).grown hg (by simp; omega) (fun k hk => ?_)) (World.grownBy.trans (World.grownBy_alloc W _ _) hg) ?_ hc
    · rcases HO.2 with ⟨rfl, _⟩ | ⟨g', cap', cur', rfl, hb, _⟩
      · simp [Value.ownBlock] at hk
      · have : g' = k := by simpa [Value.ownBlock] using hk
        omega
    · rcases hat with hat | hat
      · exact .inl hat
      · right
        simpa [Value.ownBlock] using hat
end

theorem own_base {w : World} {base base' : Nat} {e : TypeId} {size n : Nat} {v : Value} {xs : List Value} (h : w.ownsRow base e size v n xs) (hle : base' ≤ base) : w.ownsRow base' e size v n xs := by
  refine ⟨h.1, ?_⟩
  rcases h.2 with h | ⟨g, cap, cur, h1, h2, h3⟩
  · exact .inl h
  · exact .inr ⟨g, cap, cur, h1, by omega, h3⟩
theorem own_ge {w : World} {base : Nat} {e : TypeId} {size n g cap : Nat} {xs : List Value} (h : w.ownsRow base e size (.slice (some ⟨g, 0, none⟩) n cap) n xs) : base ≤ g ∧ g < w.heap.size := by
  rcases h.2 with ⟨h, _⟩ | ⟨g', cap', cur, h1, h2, h3, _⟩
  · cases h
  · injection h1 with h1
    injection h1 with h1
    injection h1 with h1
    subst h1
    exact ⟨h2, (Array.getElem?_eq_some_iff.1 h3).1⟩
theorem own_rd' {w : World} {base : Nat} {e : TypeId} {size n g cap : Nat} {xs : List Value} (h : w.ownsRow base e size (.slice (some ⟨g, 0, none⟩) n cap) n xs) : Rd w (some ⟨g, 0, none⟩) xs := by
  obtain ⟨A, c, he, _, hr⟩ := own_rd h
  injection he with h1
  rw [h1]
  exact hr
/-- a vocabulary of its own memory, with marks in the room behind its lists -/
structure Tw (w : World) (g h vc uc n m : Nat) (bs : List Int) (ps : List (Int × Int)) : Prop where
  r1 : Rd w (some ⟨g, 0, none⟩) (B8 (bs ++ [225, 226]))
  r2 : Rd w (some ⟨h, 0, none⟩) (PR (ps ++ [(-7, -8)]))
  l1 : n + 2 ≤ vc
  l2 : m + 1 ≤ uc
  hn : bs.length = n
  hm : ps.length = m
  b1 : n * 1 ≤ 140737488355320
  b2 : m * 16 ≤ 140737488355312
theorem Tw.below {w w' : World} {g h vc uc n m : Nat} {bs : List Int} {ps : List (Int × Int)} (t : Tw w g h vc uc n m bs ps) (hb : Below w.heap.size w w') : Tw w' g h vc uc n m bs ps :=
  ⟨t.r1.below hb, t.r2.below hb, t.l1, t.l2, t.hn, t.hm, t.b1, t.b2⟩
theorem Rd.left {w : World} {A : Option Addr} {xs ys : List Value} (h : Rd w A (xs ++ ys)) : Rd w A xs := by
  rcases h with h | ⟨b, o, e, hc⟩
  · exact .inl (List.append_eq_nil_iff.1 h).1
  · refine .inr ⟨b, o, e, fun i hi => ?_⟩
    rw [hc i (by simp; omega), List.getElem?_append_left hi]
theorem B8_append (xs ys : List Int) : B8 (xs ++ ys) = B8 xs ++ B8 ys := by simp [B8]
theorem PR_append (xs ys : List (Int × Int)) : PR (xs ++ ys) = PR xs ++ PR ys := by simp [PR]
theorem Tw.voc {w : World} {g h vc uc n m : Nat} {bs : List Int} {ps : List (Int × Int)} (t : Tw w g h vc uc n m bs ps) : Voc w (some ⟨g, 0, none⟩) (some ⟨h, 0, none⟩) n m bs ps :=
  ⟨t.hn, t.hm, by have := t.b1; omega, by have := t.b2; omega, by have := t.r1; rw [B8_append] at this; exact this.left, by have := t.r2; rw [PR_append] at this; exact this.left⟩

set_option maxRecDepth 100000 in
set_option maxHeartbeats 1000000 in
/-- twin -/
theorem twin_any (A A' : Option Addr) (n m c c' : Nat) (bs : List Int) (ps : List (Int × Int)) (w : World) (hv : Voc w A A' n m bs ps) (k1 : n * 1 ≤ 140737488355320) (k2 : m * 16 ≤ 140737488355312) :
    Calls Try.prog 11 #[.agg #[.slice A n c, .slice A' m c']] w fun e w' => ∃ g h vc uc, e = .returned (.agg #[.slice (some ⟨g, 0, none⟩) n vc, .slice (some ⟨h, 0, none⟩) m uc]) ∧ Tw w' g h vc uc n m bs ps ∧ w.heap.size ≤ g ∧ w.heap.size ≤ h ∧ Below w.heap.size w w' := by
  have h0 : Below w.heap.size w ((w.alloc (.cells #[.slice A n c, .slice A' m c'] 25)).alloc (.cells #[.slice none 0 0, .slice none 0 0] 25)) := by go_grown
  obtain ⟨q0, q1⟩ := two_boxes w (.slice A n c) (.slice A' m c') (.slice none 0 0) (.slice none 0 0)
  have g := hv.below h0
  go_enter Try.func11, Try.ntmps11
  go_wp2_with fail
  refine (copyVocab_any A A' n m c c' bs ps g.hn g.hm g.b1 g.b2 _ g.hx g.hy).mono ?_
  rintro e w1 ⟨v, u, rfl, ov, ou, hb⟩
  obtain ⟨va, vc, rfl, _, _⟩ := own_rd ov
  obtain ⟨ua, uc, rfl, _, _⟩ := own_rd ou
  replace q0 := q0.below hb
  replace q1 := q1.below hb
  replace h0 : Below w.heap.size w w1 := h0.trans (hb.mono (by simp; omega))
  have hsz : w.heap.size + 2 ≤ w1.heap.size := by have := hb.size; simpa using this
  obtain ⟨hn, hm, b1, b2, _, _⟩ := hv
  clear g hb
  have ov' := own_base (base' := w.heap.size) ov (by simp; omega)
  have ou' := own_base (base' := w.heap.size) ou (by simp; omega)
  clear ov ou
  go_wp2_with (first
    | (at_builtin; (refine appM (w0 := w) w.heap.size rfl _ _ 22 5 (.int .u8 0) 1 1 2 rfl Try.underlying22 info5 rfl (by decide) (by decide) (by decide) (.slice va n vc) n (B8 bs) #[.int .u8 225, .int .u8 226] rfl (by simp [Act.eval]) rfl (by simp [Value.oneCell']) (ov'.alloc _) (h0.alloc h0.size _) (by simp; omega) (by omega) ?_; intro g cap w2 o2 hb2 hg2 hat2 hc2; have p0 := Blk.kept (q0.alloc (.cells #[.slice va n vc, .slice ua m uc] 25)) hg2 (Blk.not_row q0 (by decide) ov'); have p1 := Blk.kept (q1.alloc (.cells #[.slice va n vc, .slice ua m uc] 25)) hg2 (Blk.not_row q1 (by decide) ov'); have p2 := Blk.kept (Blk.new w1 #[.slice va n vc, .slice ua m uc] 25) hg2 (Blk.not_row (Blk.new w1 #[.slice va n vc, .slice ua m uc] 25) (by decide) (ov'.alloc _)); have ow := World.ownsRow.kept (ou'.alloc _) hg2 (own_type_ne ou' ov' (by decide)); have y0 : w2.cell? ⟨w1.heap.size, 0, none⟩ = some (.slice va n vc) := p2.cell _; have y1 : w2.cell? ⟨w1.heap.size, 1, none⟩ = some (.slice ua m uc) := p2.cell _))
    | (at_builtin; (refine appM (w0 := w) w.heap.size rfl _ _ 23 51 (.agg #[.int .i64 0, .int .i64 0]) 2 16 1 rfl Try.underlying23 info51 rfl (by decide) (by decide) (by decide) (.slice ua m uc) m (PR ps) #[.int .i64 (-7), .int .i64 (-8)] rfl rfl rfl (by simp [Value.oneCell']) ow hb2 hb2.size (by omega) ?_; intro g3 cap3 w3 o3 hb3 hg3 hat3 hc3; have r0 := Blk.kept p0 hg3 (Blk.not_row p0 (by decide) ow); have r1 := Blk.kept p1 hg3 (Blk.not_row p1 (by decide) ow); have r2 := World.ownsRow.kept o2 hg3 (own_type_ne o2 ow (by decide)); have z0 : w3.cell? ⟨w.heap.size, 0, none⟩ = some (.slice A n c) := r0.cell _; have z1 : w3.cell? ⟨w.heap.size, 1, none⟩ = some (.slice A' m c') := r0.cell _; have z2 : w3.cell? ⟨w.heap.size + 1, 0, none⟩ = some (.slice none 0 0) := r1.cell _; have z3 : w3.cell? ⟨w.heap.size + 1, 1, none⟩ = some (.slice none 0 0) := r1.cell _; have z4 := r1.frozen 0; have z5 := r1.frozen 1)))
  go_region
  all_goals go_wp2
  all_goals
    have s1 : Blk ((w3.setCell ⟨w.heap.size + 1, 0, none⟩ (.slice (some ⟨g, 0, none⟩) n cap)).setCell ⟨w.heap.size + 1, 1, none⟩ (.slice (some ⟨g3, 0, none⟩) m cap3)) (w.heap.size + 1) #[.slice (some ⟨g, 0, none⟩) n cap, .slice (some ⟨g3, 0, none⟩) m cap3] 25 := (r1.set 0 _).set 1 _
    have n1 := Blk.not_row r1 (by decide) r2
    have n2 := Blk.not_row r1 (by decide) o3
    have a1 := own_set_other r2 (w.heap.size + 1) 0 (.slice (some ⟨g, 0, none⟩) n cap) n1
    have a2 := own_set_other a1 (w.heap.size + 1) 1 (.slice (some ⟨g3, 0, none⟩) m cap3) n1
    have b1 := own_set_other o3 (w.heap.size + 1) 0 (.slice (some ⟨g, 0, none⟩) n cap) n2
    have b2 := own_set_other b1 (w.heap.size + 1) 1 (.slice (some ⟨g3, 0, none⟩) m cap3) n2
    have hB := (hb3.setCell (p := ⟨w.heap.size + 1, 0, none⟩) (by simp) (.slice (some ⟨g, 0, none⟩) n cap)).setCell (p := ⟨w.heap.size + 1, 1, none⟩) (by simp) (.slice (some ⟨g3, 0, none⟩) m cap3)
    refine bodyPost_ret (results_cell_row rfl _ _ (w.heap.size + 1) 25 #[.slice (some ⟨g, 0, none⟩) n cap, .slice (some ⟨g3, 0, none⟩) m cap3] (0, 0) _ rfl s1 Try.underlying25 rfl (by kernel_rfl)) rfl ⟨g, g3, cap, cap3, rfl, ⟨?_, ?_, hc2, hc3, hn, hm, k1, k2⟩, (own_ge a2).1, (own_ge b2).1, hB.drew⟩
    · have := own_rd' a2
      rw [B8_append]
      exact this
    · have := own_rd' b2
      rw [PR_append]
      exact this
end Go.Proofs.Ytobklhnechbpaaa
