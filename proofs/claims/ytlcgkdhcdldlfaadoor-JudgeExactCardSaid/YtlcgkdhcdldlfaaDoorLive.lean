import Derived.Test.YtlcgkdhcdldlfaaDoorWorks
import Derived.ArgAppend
namespace Go.Proofs.YtlcgkdhcdldlfaaDoor
open Go.RowKit

/-- cells that are read, in a block between two bounds -/
def Rb (w : World) (A : Option Addr) (vs : List Value) (lo hi : Nat) : Prop := vs = [] ∨ ∃ b o, A = some ⟨b, o, none⟩ ∧ lo ≤ b ∧ b < hi ∧ ∀ i, i < vs.length → w.cell? ⟨b, o + i, none⟩ = vs[i]?
theorem Rb.rd {w : World} {A : Option Addr} {vs : List Value} {lo hi : Nat} (h : Rb w A vs lo hi) : Rd w A vs := by
  rcases h with h | ⟨b, o, h1, _, _, h2⟩
  · exact .inl h
  · exact .inr ⟨b, o, h1, h2⟩
theorem Rd.rb {w : World} {A : Option Addr} {vs : List Value} (h : Rd w A vs) : Rb w A vs 0 w.heap.size := by
  by_cases h0 : vs = []
  · exact .inl h0
  · rcases h with h | ⟨b, o, h1, h2⟩
    · exact absurd h h0
    · have hp : 0 < vs.length := List.length_pos_iff.2 h0
      have h3 := h2 0 hp
      rw [List.getElem?_eq_getElem hp] at h3
      exact .inr ⟨b, o, h1, Nat.zero_le _, World.block_lt_of_cell? w _ h3, h2⟩
theorem Rb.grown {w w' : World} {A : Option Addr} {vs : List Value} {lo hi : Nat} {r : Option Nat} (h : Rb w A vs lo hi) (hg : w.grownBy w' r) (hr : ∀ g, r = some g → g < lo ∨ hi ≤ g) : Rb w' A vs lo hi := by
  rcases h with h | ⟨b, o, h1, h2, h3, h4⟩
  · exact .inl h
  · refine .inr ⟨b, o, h1, h2, h3, fun i hi => ?_⟩
    have h5 := h4 i hi
    rw [List.getElem?_eq_getElem hi] at h5 ⊢
    refine hg.cell h5 (fun he => ?_)
    have := hr b he.symm
    omega
theorem Rb.below {w w' : World} {A : Option Addr} {vs : List Value} {lo hi : Nat} (h : Rb w A vs lo hi) (hb : Below w.heap.size w w') : Rb w' A vs lo hi :=
  h.grown (r := none) ⟨hb.os, hb.tape, hb.output, hb.size, fun i hi _ => hb.block i hi⟩ (by simp)
theorem Rb.left {w : World} {A : Option Addr} {xs ys : List Value} {lo hi : Nat} (h : Rb w A (xs ++ ys) lo hi) : Rb w A xs lo hi := by
  rcases h with h | ⟨b, o, h1, h2, h3, hc⟩
  · exact .inl (List.append_eq_nil_iff.1 h).1
  · refine .inr ⟨b, o, h1, h2, h3, fun i hi => ?_⟩
    rw [hc i (by simp; omega), List.getElem?_append_left hi]
theorem own_rb {w : World} {base : Nat} {e : TypeId} {size n c : Nat} {A : Option Addr} {xs : List Value} (h : w.ownsRow base e size (.slice A n c) n xs) : Rb w A xs base w.heap.size := by
  rcases own_rdA h with h0 | ⟨b, o, h1, h2⟩
  · exact .inl h0
  · obtain ⟨h3, h4⟩ := own_lt h b (by rw [h1]; rfl)
    exact .inr ⟨b, o, h1, h3, h4, h2⟩
theorem OwnI.rb {w : World} {base n c : Nat} {A : Option Addr} {xs : List Int} (h : OwnI w base A n c xs) : Rb w A (I64 xs) base w.heap.size := by
  by_cases h0 : I64 xs = []
  · exact .inl h0
  rcases h.rd with h1 | ⟨b, o, h1, h2⟩
  · exact absurd h1 h0
  · rcases h.2 with ⟨h3, _⟩ | ⟨g, cur, h3, h4, h5, _⟩
    · rw [h3] at h1; cases h1
    · rw [h1] at h3
      injection h3 with h3
      injection h3 with h3 h6
      exact .inr ⟨b, o, h1, by omega, by rw [h3]; exact h5.lt, h2⟩

/-- what lives: slices and their cells, each in its bounds -/
abbrev Item := Option Addr × List Value × Nat × Nat
def Live (w : World) (L : List Item) : Prop := ∀ (i : Nat) (x : Item), L[i]? = some x → Rb w x.1 x.2.1 x.2.2.1 x.2.2.2
theorem Live.nil (w : World) : Live w [] := fun i x h => by simp at h
theorem Live.cons {w : World} {L : List Item} {x : Item} (h : Live w L) (hx : Rb w x.1 x.2.1 x.2.2.1 x.2.2.2) : Live w (x :: L) := fun i y hy => by
  cases i with
  | zero => simp at hy; subst hy; exact hx
  | succ i => exact h i y (by simpa using hy)
theorem Live.below {w w' : World} {L : List Item} (h : Live w L) (hb : Below w.heap.size w w') : Live w' L := fun i x hx => (h i x hx).below hb
theorem Live.at {w : World} {L : List Item} (h : Live w L) (i : Nat) {x : Item} (hx : L[i]? = some x) : Rd w x.1 x.2.1 := (h i x hx).rd
theorem Live.grown {w w' : World} {L : List Item} {r : Option Nat} (h : Live w L) (hg : w.grownBy w' r) (hr : ∀ x ∈ L, ∀ g, r = some g → g < x.2.2.1 ∨ x.2.2.2 ≤ g) : Live w' L := fun i x hx => (h i x hx).grown hg (hr x (List.mem_of_getElem? hx))
theorem Live.drop {w : World} {x : Item} {L : List Item} (h : Live w (x :: L)) : Live w L := fun i y hy => h (i + 1) y (by simpa using hy)

def blk (A : Option Addr) : Option Nat := A.map (·.block)
theorem own_blk (A : Option Addr) (n c : Nat) : (Value.slice A n c).ownBlock = blk A := by cases A <;> rfl
theorem grown_step {w wr w1 : World} {r r1 : Option Nat} (h : w.grownBy wr r) (h1 : wr.grownBy w1 r1) (hr : r1 = r ∨ ∀ g, r1 = some g → w.heap.size ≤ g) : w.grownBy w1 r := by
  refine ⟨h1.os.trans h.os, h1.tape.trans h.tape, h1.output.trans h.output, Nat.le_trans h.size h1.size, fun k hk hne => ?_⟩
  refine (h1.block k (Nat.lt_of_lt_of_le hk h.size) (fun he => ?_)).trans (h.block k hk hne)
  rcases hr with hr | hr
  · exact hne (he.trans hr)
  · have := hr k he.symm
    omega
theorem grown_refl (w : World) (r : Option Nat) : w.grownBy w r := World.grownBy.refl w r

section
variable {P : Program} {ops : Array Oper} {rest : List Oper} {o : Oper} {a : Act} {Q : Exit → Act → World → Prop}
/-- append(v, y) onto numbers of the call's own -/
theorem appI {W : World} (base : Nat) (hgd : o.guard = none) (s x : Operand) (t : TypeId)
    (ho : o.op = .call { callee := .builtin .append, args := #[s, x], argTypes := #[t, t] })
    (ht : P.underlying t = some (.slice 3)) (hinfo : (P.info? 3).map (fun i => (i.zero, i.size, i.bytes)) = some (some (.int .i64 0), 1, 8))
    (A : Option Addr) (n c : Nat) (xs : List Int) (y : Int) (hs : a.eval s = .slice A n c) (hx : a.eval x = .slice (some ⟨W.heap.size, 0, none⟩) 1 1)
    (HO : OwnI W base A n c xs) (hbase : base ≤ W.heap.size) (hle : (n + 1) * 8 ≤ 140737488355328)
    (h : ∀ A' c' w1, OwnI w1 base A' (n + 1) c' (xs ++ [y]) → W.grownBy w1 (blk A) → (blk A' = blk A ∨ ∀ g, blk A' = some g → W.heap.size ≤ g) → wpList P ops Q rest (a.put o.dst (.slice A' (n + 1) c')) w1) :
    wpList P ops Q (o :: rest) a (W.alloc (.cells #[.int .i64 y] 3)) := by
  obtain ⟨i0, hi, hzz⟩ := Option.map_eq_some_iff.1 hinfo
  simp only [Prod.mk.injEq] at hzz
  obtain ⟨hz0, hz1, hz2⟩ := hzz
  have hnew := World.news_of_block (cs := #[Value.int .i64 y]) (t := 3) (fr := (0, 0)) (MapKept.heap_alloc W (.cells #[.int .i64 y] 3)).1
  have grow : c < n + 1 → (∀ b, A = some b → ∀ j u, (I64 xs)[j]? = some u → (W.alloc (.cells #[.int .i64 y] 3)).cell? (b.add j) = some u) → (A = none → n = 0 ∧ c = 0) → wpList P ops Q (o :: rest) a (W.alloc (.cells #[.int .i64 y] 3)) := fun hc hcell hnone => by
    refine wpList_append_grows (W.alloc (.cells #[.int .i64 y] 3)) hgd s x t ho 3 i0 (.int .i64 0) 1 8 ht hi hz0 hz1 hz2 rfl (by decide) A n c (I64 xs) hs hnone (by rw [I64_length, HO.1]; omega) hcell ⟨W.heap.size, 0, none⟩ 1 1 [.int .i64 y] hx rfl hnew (by simp [Value.oneCell']) hc (by simp only [maxLen]; omega) hle ?_
    intro v' w' hown hg
    obtain ⟨A', c', rfl, _, _⟩ := own_rd hown
    rw [I64_snoc] at hown
    refine h A' c' w' (OwnI.of_row (own_base hown (by simp; omega))) ?_ (.inr fun g hg' => ?_)
    · exact grown_step (World.grownBy_alloc W _ _) hg (.inr (by simp))
    · have := (own_lt hown g ((own_blk A' (n + 1) c').trans hg')).1
      simp at this
      omega
  rcases HO.2 with ⟨rfl, rfl, rfl⟩ | ⟨g, cur, rfl, hb, hB, h1, h2, h3⟩
  · exact grow (by omega) (fun b hb => by cases hb) (fun _ => ⟨rfl, rfl⟩)
  · have hB' := hB.alloc (.cells #[.int .i64 y] 3)
    have hcell : ∀ j u, (I64 xs)[j]? = some u → (W.alloc (.cells #[.int .i64 y] 3)).cell? ⟨g, 0 + j, none⟩ = some u := fun j u hu => by
      have hj := (List.getElem?_eq_some_iff.1 hu).1
      rw [I64_length, HO.1] at hj
      rw [Nat.zero_add, hB'.cell, ← hu, ← h3, List.getElem?_take_of_lt hj]
      simp
    by_cases hroom : n + 1 ≤ c
    · refine wpList_append_arg (W.alloc (.cells #[.int .i64 y] 3)) hgd s x t ho 3 i0 (.int .i64 0) 1 8 ht hi hz0 hz1 hz2 rfl (by decide) g 0 n c (I64 xs) hs (by rw [I64_length, HO.1]; omega) hcell ⟨W.heap.size, 0, none⟩ 1 1 [.int .i64 y] hx rfl hnew (by simp [Value.oneCell']) (fun _ j hj => ?_) (by simp only [maxLen]; omega) hle (fun _ => ?_) (fun hc => absurd hroom (by omega))
      · simp at hj
        subst hj
        exact ⟨by rw [hB'.cell, Array.getElem?_eq_getElem (by omega)]; rfl, hB'.frozen _⟩
      · have hS : Blk ((W.alloc (.cells #[.int .i64 y] 3)).setCells g (0 + n * 1) [.int .i64 y]) g (cur.setIfInBounds n (.int .i64 y)) 3 := by
          have := hB'.set n (.int .i64 y)
          rw [show 0 + n * 1 = n by omega]
          exact this
        refine h (some ⟨g, 0, none⟩) c _ ⟨by simp [HO.1], .inr ⟨g, _, rfl, hb, hS, hroom, by simpa using h2, ?_⟩⟩ ?_ (.inl rfl)
        · have hl : xs.length = n := HO.1
          rw [Array.toList_setIfInBounds, List.take_succ_eq_append_getElem (by simp; omega), ← I64_snoc, ← h3]
          congr 1
          · exact List.take_set_of_le (Nat.le_refl _)
          · simp
        · refine grown_step (World.grownBy_alloc W (.cells #[.int .i64 y] 3) (blk (some ⟨g, 0, none⟩))) (r1 := some g) ?_ (.inl rfl)
          rw [show 0 + n * 1 = n by omega]
          exact ⟨rfl, rfl, rfl, by simp [World.setCells], fun k _ hk => Below.heap_setCell _ ⟨g, n, none⟩ _ k (fun e => hk (by rw [e]))⟩
    · exact grow (by omega) (fun b hb j u hu => by
        cases hb
        have := hcell j u hu
        rwa [← addr_add g 0 j] at this) (fun hn => by cases hn)
end
end Go.Proofs.YtlcgkdhcdldlfaaDoor
