import Derived.Test.YtobklhnechbpaaaRanG
import Derived.ArgAppend
namespace Go.Proofs.Ytobklhnechbpaaa
open Go.RowKit
theorem grown_set (w : World) (g i : Nat) (v : Value) : w.grownBy (w.setCell ⟨g, i, none⟩ v) (some g) :=
  ⟨rfl, rfl, rfl, by simp, fun k _ hk => Below.heap_setCell _ ⟨g, i, none⟩ _ k (fun e => hk (by rw [e]))⟩
theorem own_kp {w wr : World} {base : Nat} {e : TypeId} {size n : Nat} {v : Value} {xs : List Value} (h : w.ownsRow base e size v n xs) (hk : ∀ q, v.ownBlock = some q → wr.heap[q]? = w.heap[q]?) : wr.ownsRow base e size v n xs := by
  refine ⟨h.1, ?_⟩
  rcases h.2 with h | ⟨g, cap, cur, h1, h2, h3, h4⟩
  · exact .inl h
  · exact .inr ⟨g, cap, cur, h1, h2, (hk g (by rw [h1]; rfl)).trans h3, h4⟩
theorem own_rdv {w : World} {base : Nat} {e : TypeId} {size n m c : Nat} {A : Option Addr} {xs : List Value} (h : w.ownsRow base e size (.slice A m c) n xs) : Rd w A xs := by
  obtain ⟨A', c', h1, _, h2⟩ := own_rd h
  injection h1 with h1
  subst h1
  exact h2
theorem lt_of_some {α : Type} {l : List α} {i : Nat} {a : α} (h : l[i]? = some a) : i < l.length := (List.getElem?_eq_some_iff.1 h).1
theorem B8_set (l : List Int) (i : Nat) (x : Int) : B8 (l.set i x) = (B8 l).set i (.int .u8 x) := by simp [B8, List.map_set]
theorem I64_set (l : List Int) (i : Nat) (x : Int) : I64 (l.set i x) = (I64 l).set i (.int .i64 x) := by simp [I64, List.map_set]
theorem take_set_succ {α : Type} (l : List α) (i : Nat) (x : α) (h : i < l.length) : (l.set i x).take (i + 1) = l.take i ++ [x] := by
  rw [List.take_succ_eq_append_getElem (by simpa using h)]
  congr 1
  · rw [List.take_set_of_le (Nat.le_refl _)]
  · simp
theorem Rd.pre {w : World} {A : Option Addr} {xs ys : List Value} (h : Rd w A (xs ++ ys)) : Rd w A xs := by
  rcases h with h | ⟨b, o, h1, hc⟩
  · exact .inl (List.append_eq_nil_iff.1 h).1
  · refine .inr ⟨b, o, h1, fun i hi => ?_⟩
    rw [hc i (by simp; omega), List.getElem?_append_left hi]
/-! What changes lies in S or is new -/
structure Kp (S : Nat → Prop) (w w' : World) : Prop where
  os : w'.os = w.os
  tape : w'.tape = w.tape
  output : w'.output = w.output
  size : w.heap.size ≤ w'.heap.size
  block : ∀ k, k < w.heap.size → ¬ S k → w'.heap[k]? = w.heap[k]?
theorem Kp.refl (S : Nat → Prop) (w : World) : Kp S w w := ⟨rfl, rfl, rfl, Nat.le_refl _, fun _ _ _ => rfl⟩
theorem Kp.trans {S : Nat → Prop} {w w1 w2 : World} (h : Kp S w w1) (h2 : Kp S w1 w2) : Kp S w w2 :=
  ⟨h2.os.trans h.os, h2.tape.trans h.tape, h2.output.trans h.output, Nat.le_trans h.size h2.size, fun k hk hs => (h2.block k (Nat.lt_of_lt_of_le hk h.size) hs).trans (h.block k hk hs)⟩
/-- what the second step changes was changed before, or is new -/
theorem Kp.step {S S2 : Nat → Prop} {w w1 w2 : World} (h : Kp S w w1) (h2 : Kp S2 w1 w2) (hS : ∀ k, k < w.heap.size → S2 k → S k) : Kp S w w2 :=
  ⟨h2.os.trans h.os, h2.tape.trans h.tape, h2.output.trans h.output, Nat.le_trans h.size h2.size, fun k hk hs => (h2.block k (Nat.lt_of_lt_of_le hk h.size) (fun h3 => hs (hS k hk h3))).trans (h.block k hk hs)⟩
theorem Kp.mono {S S2 : Nat → Prop} {w w1 : World} (h : Kp S w w1) (hS : ∀ k, k < w.heap.size → S k → S2 k) : Kp S2 w w1 :=
  ⟨h.os, h.tape, h.output, h.size, fun k hk hs => h.block k hk (fun h1 => hs (hS k hk h1))⟩
theorem Kp.of_below {S : Nat → Prop} {w w1 : World} (h : Below w.heap.size w w1) : Kp S w w1 := ⟨h.os, h.tape, h.output, h.size, fun k hk _ => h.block k hk⟩
theorem Kp.below {S : Nat → Prop} {w w1 w2 : World} (h : Kp S w w1) (hb : Below w1.heap.size w1 w2) : Kp S w w2 := h.trans (.of_below hb)
theorem Kp.of_grown {w w1 : World} {o : Option Nat} (h : w.grownBy w1 o) : Kp (fun k => o = some k) w w1 := ⟨h.os, h.tape, h.output, h.size, fun k hk hs => h.block k hk (fun h1 => hs h1.symm)⟩
theorem Kp.grown {S : Nat → Prop} {w w1 w2 : World} {o : Option Nat} (h : Kp S w w1) (hg : w1.grownBy w2 o) (ho : ∀ k, o = some k → k < w.heap.size → S k) : Kp S w w2 := h.step (.of_grown hg) (fun k hk h1 => ho k h1 hk)
theorem Kp.toBelow {S : Nat → Prop} {w w1 : World} (h : Kp S w w1) {n : Nat} (hn : n ≤ w.heap.size) (hS : ∀ k, k < n → ¬ S k) : Below n w w1 := ⟨h.os, h.tape, h.output, h.size, fun k hk => h.block k (by omega) (hS k hk)⟩
theorem Kp.noneS {S : Nat → Prop} {w w1 : World} (h : Kp S w w1) (hS : ∀ k, k < w.heap.size → ¬ S k) : Below w.heap.size w w1 := h.toBelow (Nat.le_refl _) hS
theorem Kp.set {S : Nat → Prop} {w w1 : World} (h : Kp S w w1) (p i : Nat) (u : Value) (hp : p < w.heap.size → S p) : Kp S w (w1.setCell ⟨p, i, none⟩ u) :=
  h.grown (grown_set w1 p i u) (fun k hk hl => by injection hk with hk; subst hk; exact hp hl)
theorem Blk.kp {S : Nat → Prop} {w w1 : World} {b : Nat} {cs : Array Value} {t : TypeId} (h : Blk w b cs t) (hk : Kp S w w1) (hs : ¬ S b) : Blk w1 b cs t := (hk.block b h.lt hs).trans h
theorem ownKp {S : Nat → Prop} {w w1 : World} {base : Nat} {e : TypeId} {size n : Nat} {v : Value} {xs : List Value} (h : w.ownsRow base e size v n xs) (hk : Kp S w w1) (hs : ∀ q, v.ownBlock = some q → ¬ S q) : w1.ownsRow base e size v n xs :=
  own_kp h (fun q hq => hk.block q (own_lt h q hq).2 (hs q hq))
/-- T holds wherever the blocks of F are as they are -/
def Held (F : Nat → Prop) (T : World → Prop) (w : World) : Prop := ∀ w', (∀ k, k < w.heap.size → F k → w'.heap[k]? = w.heap[k]?) → T w'
section
variable {F F2 S : Nat → Prop} {T T2 : World → Prop} {w w' : World}
theorem Held.now (h : Held F T w) : T w := h w (fun _ _ _ => rfl)
theorem Held.kp (h : Held F T w) (hk : Kp S w w') (hS : ∀ k, k < w.heap.size → S k → ¬ F k) (hF : ∀ k, k < w.heap.size → F k → F2 k) : Held F2 T w' :=
  fun w2 h2 => h w2 (fun k hl hf => (h2 k (Nat.lt_of_lt_of_le hl hk.size) (hF k hl hf)).trans (hk.block k hl (fun hs => hS k hl hs hf)))
theorem Held.mono (h : Held F T w) (hF : ∀ k, k < w.heap.size → F k → F2 k) : Held F2 T w := h.kp (S := fun _ => False) (Kp.refl _ w) (fun _ _ h => h.elim) hF
theorem Held.imp (h : Held F T w) (hT : ∀ w', T w' → T2 w') : Held F T2 w := fun w2 h2 => hT w2 (h w2 h2)
theorem Held.and (h : Held F T w) (h2 : Held F T2 w) : Held F (fun w => T w ∧ T2 w) w := fun w' h' => ⟨h w' h', h2 w' h'⟩
theorem Held.below (h : Held F T w) (hb : Below w.heap.size w w') : Held F T w' := h.kp (S := fun _ => False) (.of_below hb) (fun _ _ h => h.elim) (fun _ _ h => h)
end
/-! append of one element onto a row of one's own: either it lies in the row's block, or nothing old is changed -/
section
variable {P : Program} {ops : Array Oper} {rest : List Oper} {o : Oper} {a : Act} {Q : Exit → Act → World → Prop}
theorem appK {W : World} (base : Nat) (hgd : o.guard = none) (s x : Operand) (t e : TypeId) (z : Value) (bytes : Nat)
    (ho : o.op = .call { callee := .builtin .append, args := #[s, x], argTypes := #[t, t] })
    (ht : P.underlying t = some (.slice e)) (hinfo : (P.info? e).map (fun i => (i.zero, i.size, i.bytes)) = some (some z, 1, bytes)) (hzs : z.cells.size = 1) (hb0 : 0 < bytes)
    (v : Value) (n : Nat) (xs : List Value) (y : Value) (hs : a.eval s = v) (hx : a.eval x = .slice (some ⟨W.heap.size, 0, none⟩) 1 1) (hy : y.oneCell' = true)
    (HO : W.ownsRow base e 1 v n xs) (hbase : base ≤ W.heap.size) (hle : (n + 1) * bytes ≤ 140737488355328)
    (h : ∀ g cap w1, w1.ownsRow base e 1 (.slice (some ⟨g, 0, none⟩) (n + 1) cap) (n + 1) (xs ++ [y]) → ((v.ownBlock = some g ∧ W.grownBy w1 (some g)) ∨ (W.heap.size ≤ g ∧ W.grownBy w1 none)) → wpList P ops Q rest (a.put o.dst (.slice (some ⟨g, 0, none⟩) (n + 1) cap)) w1) :
    wpList P ops Q (o :: rest) a (W.alloc (.cells #[y] e)) := by
  obtain ⟨i0, hi, hzz⟩ := Option.map_eq_some_iff.1 hinfo
  simp only [Prod.mk.injEq] at hzz
  obtain ⟨hz0, hz1, hz2⟩ := hzz
  have hlen : n + 1 ≤ 140737488355328 := Nat.le_trans (Nat.le_mul_of_pos_right _ hb0) hle
  have hnew := World.news_of_block (cs := #[y]) (t := e) (fr := (0, 0)) (MapKept.heap_alloc W (.cells #[y] e)).1
  have h1c : ∀ u ∈ [y], u.oneCell' = true := fun u hu => by rw [List.mem_singleton.1 hu]; exact hy
  have grow : ∀ v' w', w'.ownsRow (W.alloc (.cells #[y] e)).heap.size e 1 v' (n + 1) (xs ++ [y]) → (W.alloc (.cells #[y] e)).grownBy w' none → wpList P ops Q rest (a.put o.dst v') w' := fun v' w' hown hg => by
    rcases hown.2 with ⟨_, h0⟩ | ⟨g, cap, cur, rfl, hb, _⟩
    · omega
    · refine h g cap w' (own_base hown (by simp; omega)) (.inr ⟨by simp at hb; omega, World.grownBy.trans (World.grownBy_alloc W _ _) hg⟩)
  have hxl : xs.length = n * 1 := HO.1
  rcases HO.2 with ⟨rfl, rfl⟩ | ⟨g, cap, cur, rfl, hb, hB, h1, h2, h3, h4⟩
  · have hx0 : xs = [] := List.length_eq_zero_iff.1 (by omega)
    subst hx0
    exact wpList_append_grows (W.alloc (.cells #[y] e)) hgd s x t ho e i0 z 1 bytes ht hi hz0 hz1 hz2 hzs (by decide) none 0 0 [] hs (fun _ => ⟨rfl, rfl⟩) rfl (fun b hb => by cases hb) ⟨W.heap.size, 0, none⟩ 1 1 [y] hx rfl hnew h1c (by omega) (by simp only [maxLen]; omega) hle grow
  · have hB' : Blk (W.alloc (.cells #[y] e)) g cur e := Blk.alloc hB _
    have hcell : ∀ j u, xs[j]? = some u → (W.alloc (.cells #[y] e)).cell? ⟨g, 0 + j, none⟩ = some u := fun j u hu => by
      have hj := (List.getElem?_eq_some_iff.1 hu).1
      rw [Nat.zero_add, hB'.cell, ← hu, ← h4, List.getElem?_take_of_lt (by omega)]
      simp
    refine wpList_append_arg (W.alloc (.cells #[y] e)) hgd s x t ho e i0 z 1 bytes ht hi hz0 hz1 hz2 hzs (by decide) g 0 n cap xs hs hxl hcell ⟨W.heap.size, 0, none⟩ 1 1 [y] hx rfl hnew h1c (fun hr j hj => ?_) (by simp only [maxLen]; omega) hle (fun hroom => ?_) (fun _ => grow)
    · simp at hj
      subst hj
      exact ⟨by rw [hB'.cell, Array.getElem?_eq_getElem (by omega)]; rfl, hB'.frozen _⟩
    · have hS : Blk ((W.alloc (.cells #[y] e)).setCells g (0 + n * 1) [y]) g (cur.setIfInBounds n y) e := by
        have := hB'.set n y
        rw [show 0 + n * 1 = n by omega]
        exact this
      refine h g cap _ ⟨by simp [hxl], .inr ⟨g, cap, _, rfl, hb, hS, hroom, h2, by simpa using h3, ?_⟩⟩ (.inl ⟨rfl, ?_⟩)
      · rw [Array.toList_setIfInBounds, show (n + 1) * 1 = n + 1 by omega, List.take_succ_eq_append_getElem (by simp; omega)]
        rw [show n * 1 = n by omega] at h4
        congr 1
        · rw [List.take_set_of_le (Nat.le_refl _)]; exact h4
        · simp
      · refine World.grownBy.trans (World.grownBy_alloc W (.cells #[y] e) (some g)) ?_
        rw [show 0 + n * 1 = n by omega]
        exact ⟨rfl, rfl, rfl, by simp [World.setCells], fun k _ hk => Below.heap_setCell _ ⟨g, n, none⟩ _ k (fun e => hk (by rw [e]))⟩
end
/-- cells that are read, in a block of which P holds -/
def Rp (P : Nat → Prop) (w : World) (A : Option Addr) (vs : List Value) : Prop := vs = [] ∨ ∃ b o, A = some ⟨b, o, none⟩ ∧ P b ∧ ∀ i, i < vs.length → w.cell? ⟨b, o + i, none⟩ = vs[i]?
section
variable {P P2 S : Nat → Prop} {w w' : World} {A : Option Addr} {vs : List Value}
theorem Rp.rd (h : Rp P w A vs) : Rd w A vs := by
  rcases h with h | ⟨b, o, h1, _, h2⟩
  · exact .inl h
  · exact .inr ⟨b, o, h1, h2⟩
theorem Rp.mono (h : Rp P w A vs) (hp : ∀ b, b < w.heap.size → P b → P2 b) : Rp P2 w A vs := by
  rcases h with h | ⟨b, o, h1, h3, h2⟩
  · exact .inl h
  · by_cases h0 : vs = []
    · exact .inl h0
    · have hpos : 0 < vs.length := List.length_pos_iff.2 h0
      have h4 := h2 0 hpos
      rw [List.getElem?_eq_getElem hpos] at h4
      exact .inr ⟨b, o, h1, hp b (World.block_lt_of_cell? w _ h4) h3, h2⟩
theorem Rp.kp (h : Rp P w A vs) (hk : Kp S w w') (hs : ∀ b, b < w.heap.size → P b → ¬ S b) : Rp P w' A vs := by
  rcases h with h | ⟨b, o, h1, h3, h2⟩
  · exact .inl h
  · refine .inr ⟨b, o, h1, h3, fun i hi => ?_⟩
    have h4 := h2 i hi
    rw [List.getElem?_eq_getElem hi] at h4
    have hlt : b < w.heap.size := World.block_lt_of_cell? w _ h4
    rw [World.cell?_of_block (w := w) (hk.block b hlt (hs b hlt h3))]
    exact h2 i hi
end
theorem own_rp {w : World} {base : Nat} {e : TypeId} {size n c : Nat} {A : Option Addr} {xs : List Value} (h : w.ownsRow base e size (.slice A n c) n xs) (P : Nat → Prop) (hp : ∀ b, (Value.slice A n c).ownBlock = some b → P b) : Rp P w A xs := by
  rcases own_rdA h with h0 | ⟨b, o, h1, h2⟩
  · exact .inl h0
  · exact .inr ⟨b, o, h1, hp b (by rw [h1]; rfl), h2⟩
/-- a list that stands in another's kind of memory has another block -/
theorem row_ne {W : World} {b b' n n' : Nat} {e e' : TypeId} {v v' : Value} {xs xs' : List Value} (hl : W.ownsRow b e 1 v n xs) (ho : W.ownsRow b' e' 1 v' n' xs') (hne : e ≠ e') : ∀ k, v'.ownBlock = some k → v.ownBlock ≠ some k := fun k hk he => by
  rcases own_type_ne hl ho hne with h | h
  · rw [h] at he; cases he
  · exact h (he.trans hk.symm)
/-! the law's Book -/
structure Bkt (H q : Nat) (W : World) (lv sv : Value) (nl ns : Nat) (vals wvals : List Value) : Prop where
  hq : H ≤ q
  bk : Blk W q #[lv, .slice none 0 0, sv] 57
  rl : W.ownsRow H 22 1 lv nl vals
  rs : W.ownsRow H 22 1 sv ns wvals
  ap : ∀ k, lv.ownBlock = some k → sv.ownBlock ≠ some k
def Kn (q : Nat) (lv sv : Value) : Nat → Prop := fun k => k = q ∨ lv.ownBlock = some k ∨ sv.ownBlock = some k
section
variable {H q : Nat} {W W' w1 : World} {lv sv : Value} {nl ns : Nat} {vals wvals : List Value}
theorem Bkt.kp (h : Bkt H q W lv sv nl ns vals wvals) {S : Nat → Prop} (hk : Kp S W W') (hS : ∀ k, Kn q lv sv k → ¬ S k) : Bkt H q W' lv sv nl ns vals wvals :=
  ⟨h.hq, h.bk.kp hk (hS _ (.inl rfl)), ownKp h.rl hk (fun k e => hS k (.inr (.inl e))), ownKp h.rs hk (fun k e => hS k (.inr (.inr e))), h.ap⟩
theorem Bkt.below (h : Bkt H q W lv sv nl ns vals wvals) (hb : Below W.heap.size W W') : Bkt H q W' lv sv nl ns vals wvals :=
  h.kp (S := fun _ => False) (.of_below hb) (fun _ _ h => h)
theorem Bkt.cellL (h : Bkt H q W lv sv nl ns vals wvals) (hg : W.grownBy w1 lv.ownBlock) : Blk w1 q #[lv, .slice none 0 0, sv] 57 := h.bk.kept hg (h.bk.not_row (by decide) h.rl)
theorem Bkt.cellS (h : Bkt H q W lv sv nl ns vals wvals) (hg : W.grownBy w1 sv.ownBlock) : Blk w1 q #[lv, .slice none 0 0, sv] 57 := h.bk.kept hg (h.bk.not_row (by decide) h.rs)
theorem Bkt.row (h : Bkt H q W lv sv nl ns vals wvals) {base n : Nat} {e : TypeId} {v : Value} {xs : List Value} (ho : W.ownsRow base e 1 v n xs) (he : 22 ≠ e) (he2 : 57 ≠ e) : ∀ k, v.ownBlock = some k → ¬ Kn q lv sv k := by
  rintro k hk (e1 | e1 | e1)
  · subst e1; exact h.bk.not_row he2 ho hk.symm
  · exact row_ne h.rl ho he k hk e1
  · exact row_ne h.rs ho he k hk e1
/-- one more is laid behind the first list -/
theorem Bkt.pushL {g cap : Nat} {x : Value} (h : Bkt H q W lv sv nl ns vals wvals) (os : w1.ownsRow H 22 1 (.slice (some ⟨g, 0, none⟩) (nl + 1) cap) (nl + 1) (vals ++ [x])) (hg : W.grownBy w1 lv.ownBlock) (hc : lv.ownBlock = some g ∨ W.heap.size ≤ g) :
    Bkt H q (w1.setCell ⟨q, 0, none⟩ (.slice (some ⟨g, 0, none⟩) (nl + 1) cap)) (.slice (some ⟨g, 0, none⟩) (nl + 1) cap) sv (nl + 1) ns (vals ++ [x]) wvals ∧ Kp (Kn q lv sv) W (w1.setCell ⟨q, 0, none⟩ (.slice (some ⟨g, 0, none⟩) (nl + 1) cap)) := by
  have hne := h.bk.not_row (by decide) h.rl
  have hk0 : Kp (fun k => lv.ownBlock = some k) W w1 := Kp.of_grown hg
  have k4 : Blk w1 q #[lv, .slice none 0 0, sv] 57 := h.bk.kp hk0 (fun e => hne e.symm)
  have hk : Kp (fun k => k = q ∨ lv.ownBlock = some k) W (w1.setCell ⟨q, 0, none⟩ (.slice (some ⟨g, 0, none⟩) (nl + 1) cap)) := (hk0.mono (fun k _ e => .inr e)).set q 0 _ (fun _ => .inl rfl)
  have hgs : ∀ k, (Value.slice (some ⟨g, 0, none⟩) (nl + 1) cap).ownBlock = some k → g = k := fun k hk => by simpa [Value.ownBlock] using hk
  refine ⟨⟨h.hq, k4.set 0 _, own_set_other os q 0 _ (k4.not_row (by decide) os), ownKp h.rs hk (fun k hk2 => ?_), ?_⟩, hk.mono (fun k _ e => e.elim .inl (fun e => .inr (.inl e)))⟩
  · rintro (e | e)
    · exact h.bk.not_row (by decide) h.rs (e ▸ hk2.symm)
    · exact h.ap k e hk2
  · intro k hk
    obtain rfl := hgs k hk
    rcases hc with e | e
    · exact h.ap g e
    · intro hm
      have := (own_lt h.rs g hm).2
      omega
theorem Bkt.pushS {g cap : Nat} {x : Value} (h : Bkt H q W lv sv nl ns vals wvals) (os : w1.ownsRow H 22 1 (.slice (some ⟨g, 0, none⟩) (ns + 1) cap) (ns + 1) (wvals ++ [x])) (hg : W.grownBy w1 sv.ownBlock) (hc : sv.ownBlock = some g ∨ W.heap.size ≤ g) :
    Bkt H q (w1.setCell ⟨q, 2, none⟩ (.slice (some ⟨g, 0, none⟩) (ns + 1) cap)) lv (.slice (some ⟨g, 0, none⟩) (ns + 1) cap) nl (ns + 1) vals (wvals ++ [x]) ∧ Kp (Kn q lv sv) W (w1.setCell ⟨q, 2, none⟩ (.slice (some ⟨g, 0, none⟩) (ns + 1) cap)) := by
  have hne := h.bk.not_row (by decide) h.rs
  have hk0 : Kp (fun k => sv.ownBlock = some k) W w1 := Kp.of_grown hg
  have k4 : Blk w1 q #[lv, .slice none 0 0, sv] 57 := h.bk.kp hk0 (fun e => hne e.symm)
  have hk : Kp (fun k => k = q ∨ sv.ownBlock = some k) W (w1.setCell ⟨q, 2, none⟩ (.slice (some ⟨g, 0, none⟩) (ns + 1) cap)) := (hk0.mono (fun k _ e => .inr e)).set q 2 _ (fun _ => .inl rfl)
  have hgs : ∀ k, (Value.slice (some ⟨g, 0, none⟩) (ns + 1) cap).ownBlock = some k → g = k := fun k hk => by simpa [Value.ownBlock] using hk
  refine ⟨⟨h.hq, k4.set 2 _, ownKp h.rl hk (fun k hk2 => ?_), own_set_other os q 2 _ (k4.not_row (by decide) os), ?_⟩, hk.mono (fun k _ e => e.elim .inl (fun e => .inr (.inr e)))⟩
  · rintro (e | e)
    · exact h.bk.not_row (by decide) h.rl (e ▸ hk2.symm)
    · exact h.ap k hk2 e
  · intro k hk hm
    obtain rfl := hgs k hm
    rcases hc with e | e
    · exact h.ap g hk e
    · have := (own_lt h.rl g hk).2
      omega
end
structure Bok (H q : Nat) (W : World) (lv sv : Value) (n : Nat) (vals wvals : List Value) (Ls : List (List Int)) : Prop where
  t : Bkt H q W lv sv n n vals wvals
  ln : Ls.length = n
  rw : ∀ (i : Nat) (v : Value) (l : List Int), vals[i]? = some v → Ls[i]? = some l → W.ownsRow H 5 1 v l.length (B8 l) ∧ l.length ≤ 1099511627776
  wr : ∀ (i : Nat) (v : Value) (l : List Int), wvals[i]? = some v → Ls[i]? = some l → W.ownsRow H 5 1 v l.length (B8 l)
  un : ∀ (i j : Nat) (v u : Value), i ≠ j → vals[i]? = some v → vals[j]? = some u → v.ownBlock = none ∨ v.ownBlock ≠ u.ownBlock
section
variable {H q : Nat} {W W' w1 : World} {lv sv : Value} {n : Nat} {vals wvals : List Value} {Ls : List (List Int)}
theorem Bok.below (h : Bok H q W lv sv n vals wvals Ls) (hb : Below W.heap.size W W') : Bok H q W' lv sv n vals wvals Ls :=
  ⟨h.t.below hb, h.ln, fun i v l hv hl => ⟨own_below (h.rw i v l hv hl).1 hb, (h.rw i v l hv hl).2⟩, fun i v l hv hl => own_below (h.wr i v l hv hl) hb, h.un⟩
theorem Bok.len (h : Bok H q W lv sv n vals wvals Ls) : vals.length = n ∧ wvals.length = n := ⟨by have := h.t.rl.1; omega, by have := h.t.rs.1; omega⟩
theorem snoc_cases {α : Type} {l : List α} {x y : α} {i : Nat} (h : (l ++ [x])[i]? = some y) : (i < l.length ∧ l[i]? = some y) ∨ (i = l.length ∧ y = x) := by
  rcases Nat.lt_or_ge i l.length with hi | hi
  · rw [List.getElem?_append_left hi] at h; exact .inl ⟨hi, h⟩
  · rw [List.getElem?_append_right hi] at h
    have h1 := lt_of_some h
    simp at h1
    have h2 : i = l.length := by omega
    subst h2
    simp at h
    exact .inr ⟨rfl, h.symm⟩
/-- the Book with one more list -/
theorem Bok.snoc {lv' sv' x y : Value} {l : List Int} (h : Bok H q W lv sv n vals wvals Ls) (t : Bkt H q W' lv' sv' (n + 1) (n + 1) (vals ++ [x]) (wvals ++ [y])) (hk : Kp (Kn q lv sv) W W') (ox : W'.ownsRow H 5 1 x l.length (B8 l)) (oy : W'.ownsRow H 5 1 y l.length (B8 l)) (hl : l.length ≤ 1099511627776) (hu : ∀ (i : Nat) (u : Value), vals[i]? = some u → x.ownBlock = none ∨ x.ownBlock ≠ u.ownBlock) :
    Bok H q W' lv' sv' (n + 1) (vals ++ [x]) (wvals ++ [y]) (Ls ++ [l]) := by
  obtain ⟨e1, e2⟩ := h.len
  have e3 := h.ln
  refine ⟨t, by simp [h.ln], fun i v l' hv hl' => ?_, fun i v l' hv hl' => ?_, fun i j v u hij hv hu' => ?_⟩
  · rcases snoc_cases hv with ⟨hi, hv⟩ | ⟨hi, rfl⟩ <;> rcases snoc_cases hl' with ⟨hj, hl'⟩ | ⟨hj, rfl⟩
    · have := h.rw i v l' hv hl'
      exact ⟨ownKp this.1 hk (h.t.row this.1 (by decide) (by decide)), this.2⟩
    · omega
    · omega
    · exact ⟨ox, hl⟩
  · rcases snoc_cases hv with ⟨hi, hv⟩ | ⟨hi, rfl⟩ <;> rcases snoc_cases hl' with ⟨hj, hl'⟩ | ⟨hj, rfl⟩
    · have := h.wr i v l' hv hl'
      exact ownKp this hk (h.t.row this (by decide) (by decide))
    · omega
    · omega
    · exact oy
  · rcases snoc_cases hv with ⟨hi, hv2⟩ | ⟨hi, rfl⟩ <;> rcases snoc_cases hu' with ⟨hj, hu2⟩ | ⟨hj, rfl⟩
    · exact h.un i j v u hij hv2 hu2
    · cases hz : v.ownBlock with
      | none => exact .inl rfl
      | some z =>
        refine .inr (fun hh => ?_)
        rcases hu i v hv2 with e | e
        · rw [e] at hh; cases hh
        · exact e (hh.symm.trans hz.symm)
    · exact hu j u hu2
    · omega
end
end Go.Proofs.Ytobklhnechbpaaa
