import Derived.Test.YtobklhnechbpaaaJoinP
import Derived.Test.YtobklhnechbpaaaAllsW
import Derived.Maps.OwnIn
namespace Go.Proofs.Ytobklhnechbpaaa
open Go.RowKit

section
variable {F : Fence} {nF : Nat} {P : Program} {ops : Array Oper} {rest : List Oper} {o : Oper} {a : Act} {Q : Exit → Act → World → Prop}
/-- 'app' inside a fence -/
theorem appIn {w0 W : World} (base : Nat) (hgd : o.guard = none) (s x : Operand) (t e : TypeId) (z : Value) (size bytes : Nat)
    (ho : o.op = .call { callee := .builtin .append, args := #[s, x], argTypes := #[t, t] })
    (ht : P.underlying t = some (.slice e)) (hinfo : (P.info? e).map (fun i => (i.zero, i.size, i.bytes)) = some (some z, size, bytes)) (hzs : z.cells.size = size) (hsz : 0 < size) (hb0 : 0 < bytes)
    (v : Value) (n : Nat) (xs : List Value) (cs : Array Value) (hs : a.eval s = v) (hx : a.eval x = .slice (some ⟨W.heap.size, 0, none⟩) 1 1) (hl : cs.size = size) (h1 : ∀ u ∈ cs.toList, u.oneCell' = true)
    (HO : W.ownsRow base e size v n xs) (HB : Below base w0 W) (hbase : base ≤ W.heap.size) (hle : (n + 1) * bytes ≤ 140737488355328)
    (h : ∀ g cap w1, w1.ownsRow base e size (.slice (some ⟨g, 0, none⟩) (n + 1) cap) (n + 1) (xs ++ cs.toList) → Below base w0 w1 → W.grownBy w1 v.ownBlock → (some g = v.ownBlock ∨ g = W.heap.size + 1) → wpListIn F nF P ops Q rest (a.put o.dst (.slice (some ⟨g, 0, none⟩) (n + 1) cap)) w1) :
    wpListIn F nF P ops Q (o :: rest) a (W.alloc (.cells cs e)) := by
  obtain ⟨i0, hi, hzz⟩ := Option.map_eq_some_iff.1 hinfo
  simp only [Prod.mk.injEq] at hzz
  obtain ⟨hz0, hz1, hz2⟩ := hzz
  have hlen : n + 1 ≤ 140737488355328 := Nat.le_trans (Nat.le_mul_of_pos_right _ hb0) hle
  refine wpListIn_append_own_at (W.alloc (.cells cs e)) hgd s x t ho base e i0 z size bytes ht hi hz0 hz1 hz2 hzs hsz v n xs hs (HO.alloc _) ⟨W.heap.size, 0, none⟩ 1 1 cs.toList hx (by simpa using hl)
    (World.news_of_block (cs := cs) (t := e) (fr := (0, 0)) (MapKept.heap_alloc W _).1) h1 (by simp only [maxLen]; omega) hle (by simp; omega) ?_
  intro v1 w1 hown hg _ hat
  rcases hown.2 with ⟨_, h0⟩ | ⟨g, cap, cur, rfl, _⟩
  · omega
  · refine h g cap w1 hown ((HB.alloc hbase _).grown hg (by simp; omega) (fun k hk => ?_)) (World.grownBy.trans (World.grownBy_alloc W _ _) hg) ?_
    · exact (own_lt HO k hk).1
    · rcases hat with hat | hat
      · exact .inl hat
      · right
        simpa [Value.ownBlock] using hat
end
theorem own_made3 (W : World) (base cap : Nat) (hb : base ≤ W.heap.size) (hm : cap ≤ maxLen) :
    (W.alloc (.cells (madeCells #[.int .i64 0] cap) 3)).ownsRow base 3 1 (.slice (some ⟨W.heap.size, 0, none⟩) 0 cap) 0 [] :=
  ⟨rfl, .inr ⟨W.heap.size, cap, _, rfl, hb, (MapKept.heap_alloc W _).1, Nat.zero_le _, hm, by simp [size_madeCells], by simp⟩⟩
end Go.Proofs.Ytobklhnechbpaaa
