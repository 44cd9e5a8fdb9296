import Derived.Test.YtcambbnmeiolgaaEqv
namespace Go.Proofs.Ytcambbnmeiolgaa
open Go.RowKit

section
variable {P : Program} {ops : Array Oper} {rest : List Oper} {o : Oper} {a : Act} {Q : Exit → Act → World → Prop}
/-- append of m elements that a literal holds, boxed right ahead -/
theorem appM {w0 W : World} (base : Nat) (hgd : o.guard = none) (s x : Operand) (t e : TypeId) (z : Value) (size bytes m : Nat)
    (ho : o.op = .call { callee := .builtin .append, args := #[s, x], argTypes := #[t, t] })
    (ht : P.underlying t = some (.slice e)) (hinfo : (P.info? e).map (fun i => (i.zero, i.size, i.bytes)) = some (some z, size, bytes)) (hzs : z.cells.size = size) (hsz : 0 < size) (hb0 : 0 < bytes) (hm : 0 < m)
    (v : Value) (n : Nat) (xs : List Value) (cs : Array Value) (hs : a.eval s = v) (hx : a.eval x = .slice (some ⟨W.heap.size, 0, none⟩) m m) (hl : cs.size = m * size) (h1 : ∀ u ∈ cs.toList, u.oneCell' = true)
    (HO : W.ownsRow base e size v n xs) (HB : Below base w0 W) (hbase : base ≤ W.heap.size) (hle : (n + m) * bytes ≤ 140737488355328)
    (h : ∀ g cap w1, w1.ownsRow base e size (.slice (some ⟨g, 0, none⟩) (n + m) cap) (n + m) (xs ++ cs.toList) → Below base w0 w1 → W.grownBy w1 v.ownBlock → (some g = v.ownBlock ∨ g = W.heap.size + 1) → n + m ≤ cap → wpList P ops Q rest (a.put o.dst (.slice (some ⟨g, 0, none⟩) (n + m) cap)) w1) :
    wpList P ops Q (o :: rest) a (W.alloc (.cells cs e)) := by
  obtain ⟨i0, hi, hzz⟩ := Option.map_eq_some_iff.1 hinfo
  simp only [Prod.mk.injEq] at hzz
  obtain ⟨hz0, hz1, hz2⟩ := hzz
  have hlen : n + m ≤ 140737488355328 := Nat.le_trans (Nat.le_mul_of_pos_right _ hb0) hle
  refine wpList_append_own_at (W.alloc (.cells cs e)) hgd s x t ho base e i0 z size bytes ht hi hz0 hz1 hz2 hzs hsz v n xs hs (HO.alloc _) ⟨W.heap.size, 0, none⟩ m m cs.toList hx (by simpa using hl)
    (World.news_of_block (cs := cs) (t := e) (fr := (0, 0)) (MapKept.heap_alloc W _).1) h1 (by simp only [maxLen]; omega) hle (by simp; omega) ?_
  intro v1 w1 hown hg _ hat
  rcases hown.2 with ⟨_, h0⟩ | ⟨g, cap, cur, rfl, _, _, hc, _⟩
  · omega
  · refine h g cap w1 hown ((HB.alloc hbase _).grown hg (by simp; omega) (fun k hk => ?_)) (World.grownBy.trans (World.grownBy_alloc W _ _) hg) ?_ hc
    · rcases HO.2 with ⟨rfl, _⟩ | ⟨g', cap', cur', rfl, hb, _⟩
      · simp [Value.ownBlock] at hk
      · have : g' = k := by simpa [Value.ownBlock] using hk
        omega
    · rcases hat with hat | hat
      · exact .inl hat
      · right
        simpa [Value.ownBlock] using hat
end

theorem own_base {w : World} {base base' : Nat} {e : TypeId} {size n : Nat} {v : Value} {xs : List Value} (h : w.ownsRow base e size v n xs) (hle : base' ≤ base) : w.ownsRow base' e size v n xs := by
  refine ⟨h.1, ?_⟩
  rcases h.2 with h | ⟨g, cap, cur, h1, h2, h3⟩
  · exact .inl h
  · exact .inr ⟨g, cap, cur, h1, by omega, h3⟩
theorem own_ge {w : World} {base : Nat} {e : TypeId} {size n g cap : Nat} {xs : List Value} (h : w.ownsRow base e size (.slice (some ⟨g, 0, none⟩) n cap) n xs) : base ≤ g ∧ g < w.heap.size := by
  rcases h.2 with ⟨h, _⟩ | ⟨g', cap', cur, h1, h2, h3, _⟩
  · cases h
  · injection h1 with h1
    injection h1 with h1
    injection h1 with h1
    subst h1
    exact ⟨h2, (Array.getElem?_eq_some_iff.1 h3).1⟩
theorem own_rd' {w : World} {base : Nat} {e : TypeId} {size n g cap : Nat} {xs : List Value} (h : w.ownsRow base e size (.slice (some ⟨g, 0, none⟩) n cap) n xs) : Rd w (some ⟨g, 0, none⟩) xs := by
  obtain ⟨A, c, he, _, hr⟩ := own_rd h
  injection he with h1
  rw [h1]
  exact hr
/-- a vocabulary of its own memory, with marks in the room behind its lists -/
structure Tw (w : World) (g h vc uc n m : Nat) (bs : List Int) (ps : List (Int × Int)) : Prop where
  r1 : Rd w (some ⟨g, 0, none⟩) (B8 (bs ++ [225, 226]))
  r2 : Rd w (some ⟨h, 0, none⟩) (PR (ps ++ [(-7, -8)]))
  l1 : n + 2 ≤ vc
  l2 : m + 1 ≤ uc
  hn : bs.length = n
  hm : ps.length = m
  b1 : n * 1 ≤ 140737488355320
  b2 : m * 16 ≤ 140737488355312
theorem Tw.below {w w' : World} {g h vc uc n m : Nat} {bs : List Int} {ps : List (Int × Int)} (t : Tw w g h vc uc n m bs ps) (hb : Below w.heap.size w w') : Tw w' g h vc uc n m bs ps :=
  ⟨t.r1.below hb, t.r2.below hb, t.l1, t.l2, t.hn, t.hm, t.b1, t.b2⟩
theorem Rd.left {w : World} {A : Option Addr} {xs ys : List Value} (h : Rd w A (xs ++ ys)) : Rd w A xs := by
  rcases h with h | ⟨b, o, e, hc⟩
  · exact .inl (List.append_eq_nil_iff.1 h).1
  · refine .inr ⟨b, o, e, fun i hi => ?_⟩
    rw [hc i (by simp; omega), List.getElem?_append_left hi]
theorem B8_append (xs ys : List Int) : B8 (xs ++ ys) = B8 xs ++ B8 ys := by simp [B8]
theorem PR_append (xs ys : List (Int × Int)) : PR (xs ++ ys) = PR xs ++ PR ys := by simp [PR]
theorem Tw.voc {w : World} {g h vc uc n m : Nat} {bs : List Int} {ps : List (Int × Int)} (t : Tw w g h vc uc n m bs ps) : Voc w (some ⟨g, 0, none⟩) (some ⟨h, 0, none⟩) n m bs ps :=
  ⟨t.hn, t.hm, by have := t.b1; omega, by have := t.b2; omega, by have := t.r1; rw [B8_append] at this; exact this.left, by have := t.r2; rw [PR_append] at this; exact this.left⟩

end Go.Proofs.Ytcambbnmeiolgaa
