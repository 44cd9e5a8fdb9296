import Derived.Test.YtobklhnechbpaaaNotW
namespace Go.Proofs.Ytobklhnechbpaaa
open Go.RowKit
/-! apart: the rows are marked, and grown -/
def mb1 (N : Nat) : Int := IntKind.u8.wrap (3 * (N : Int) + 1)
def mb2 (N : Nat) : Int := IntKind.u8.wrap (3 * (N : Int) + 2)
def mk1 (N n : Nat) : List Int := List.replicate n (mb1 N)
def mk2 (N n j : Nat) : List Int := mk1 N n ++ List.replicate j (mb2 N)
theorem mk1_length (N n : Nat) : (mk1 N n).length = n := by simp [mk1]
theorem mk2_length (N n j : Nat) : (mk2 N n j).length = n + j := by simp [mk2, mk1_length]
theorem mk1_succ (N i : Nat) : mk1 N (i + 1) = mk1 N i ++ [mb1 N] := by unfold mk1; rw [List.replicate_succ']
theorem mk2_succ (N n j : Nat) : mk2 N n (j + 1) = mk2 N n j ++ [mb2 N] := by unfold mk2; rw [List.replicate_succ', List.append_assoc]
theorem mk2_zero (N n : Nat) : mk2 N n 0 = mk1 N n := by simp [mk2]
def rowC (q : Nat) (lsv : Value) (vals : List Value) (M : Nat) : Nat → Nat := fun z => if z = q then M + 3 else if lsv.ownBlock = some z then M + 1 else vals.findIdx (fun v => decide (v.ownBlock = some z))
/-- the rows are marked, up to i -/
structure Ph2 (w W : World) (cl : Nat → Nat) (q : Nat) (lsv sv : Value) (M : Nat) (vals : List Value) (lens : List Nat) (i : Nat) : Prop where
  bk : Blk W q #[lsv, .slice none 0 0, sv] 57
  qc : cl q = M + 3
  ls : W.ownsRow 0 22 1 lsv M vals
  lc : ∀ z, lsv.ownBlock = some z → cl z = M + 1
  nl : lens.length = M
  row : ∀ (j : Nat) (v : Value) (len : Nat), vals[j]? = some v → lens[j]? = some len → len ≤ 1099511627776 ∧ (∀ z, v.ownBlock = some z → cl z = j) ∧ ∃ l, l.length = len ∧ W.ownsRow 0 5 1 v len (B8 l) ∧ (j < i → l = mk1 j len)
  bl : Kp (fun z => cl z ≠ M) w W
theorem Bok.ph2 {H q : Nat} {W : World} {lv sv : Value} {n : Nat} {vals wvals : List Value} {Ls : List (List Int)} (h : Bok H q W lv sv n vals wvals Ls) : Ph2 W W (rowC q lv vals n) q lv sv n vals (Ls.map List.length) 0 := by
  obtain ⟨hvl, _⟩ := h.len
  refine ⟨h.t.bk, by unfold rowC; rw [if_pos rfl], own_base h.t.rl (Nat.zero_le _), fun z hz => ?_, by rw [List.length_map]; exact h.ln, fun j v len hv hlen => ?_, Kp.refl _ _⟩
  · unfold rowC
    rw [if_neg (fun e => h.t.bk.not_row (by decide) h.t.rl (by rw [hz, e])), if_pos hz]
  · obtain ⟨l, hl, rfl⟩ : ∃ l, Ls[j]? = some l ∧ l.length = len := by
      rw [List.getElem?_map] at hlen
      cases hq : Ls[j]? with
      | none => rw [hq] at hlen; cases hlen
      | some l => rw [hq] at hlen; injection hlen with hlen; exact ⟨l, rfl, hlen⟩
    obtain ⟨h1, h3⟩ := h.rw j v l hv hl
    refine ⟨h3, fun z hz => ?_, l, rfl, own_base h1 (Nat.zero_le _), fun hj => by omega⟩
    have hjl := lt_of_some hv
    have hvj : vals[j] = v := by rw [List.getElem?_eq_getElem hjl] at hv; injection hv
    unfold rowC
    rw [if_neg (fun e => h.t.bk.not_row (by decide) h1 (by rw [hz, e])), if_neg (row_ne h.t.rl h1 (by decide) z hz), List.findIdx_eq hjl]
    refine ⟨by rw [hvj]; exact decide_eq_true hz, fun i hi => decide_eq_false (fun e => ?_)⟩
    rcases h.un i j _ v (by omega) (List.getElem?_eq_getElem (by omega)) hv with e2 | e2
    · rw [e] at e2; cases e2
    · exact e2 (e.trans hz.symm)
/-- what has another kind than the Book's is kept -/
theorem Bok.rest {H q : Nat} {W : World} {lv sv : Value} {n : Nat} {vals wvals : List Value} {Ls : List (List Int)} (h : Bok H q W lv sv n vals wvals Ls) (z : Nat) (hz : z < H ∨ ∃ b m v xs, W.ownsRow b 3 1 v m xs ∧ v.ownBlock = some z) : rowC q lv vals n z = n := by
  obtain ⟨hvl, _⟩ := h.len
  have hq : z ≠ q := fun e => by
    rcases hz with hz | ⟨b, m, v, xs, ho, hb⟩
    · have := h.t.hq; omega
    · exact h.t.bk.not_row (by decide) ho (by rw [hb, e])
  have hl : lv.ownBlock ≠ some z := fun e => by
    rcases hz with hz | ⟨b, m, v, xs, ho, hb⟩
    · have := (own_lt h.t.rl z e).1; omega
    · exact row_ne h.t.rl ho (by decide) z hb e
  unfold rowC
  rw [if_neg hq, if_neg hl, ← hvl]
  refine List.findIdx_eq_length.2 (fun v hv => decide_eq_false (fun e => ?_))
  obtain ⟨i, hi, rfl⟩ := List.getElem_of_mem hv
  have h1 := (h.rw i _ _ (List.getElem?_eq_getElem hi) (List.getElem?_eq_getElem (show i < Ls.length by rw [h.ln]; omega))).1
  rcases hz with hz | ⟨b, m, v, xs, ho, hb⟩
  · have := (own_lt h1 z e).1; omega
  · exact row_ne h1 ho (by decide) z hb e
/-- row i is marked -/
theorem Ph2.next {w W W' : World} {cl : Nat → Nat} {q : Nat} {lsv sv : Value} {M : Nat} {vals : List Value} {lens : List Nat} {i : Nat} (h : Ph2 w W cl q lsv sv M vals lens i) {v : Value} {len : Nat} (hv : vals[i]? = some v) (hl : lens[i]? = some len) (ho : W'.ownsRow 0 5 1 v len (B8 (mk1 i len))) (hk : Kp (fun z => v.ownBlock = some z) W W') : Ph2 w W' cl q lsv sv M vals lens (i + 1) := by
  obtain ⟨_, hc, l0, _, ho0, _⟩ := h.row i v len hv hl
  have hiM := lt_of_some hl
  have hnl := h.nl
  refine ⟨h.bk.kp hk (fun e => h.bk.not_row (by decide) ho0 e.symm), h.qc, ownKp h.ls hk (fun z hz e => row_ne h.ls ho0 (by decide) z e hz), h.lc, h.nl, fun j v' len' hv' hl' => ?_, h.bl.step hk (fun z hz e => ?_)⟩
  · obtain ⟨h1, h2, l, h3, h4, h5⟩ := h.row j v' len' hv' hl'
    by_cases hji : j = i
    · subst hji
      rw [hv] at hv'
      injection hv' with hv'
      subst hv'
      rw [hl] at hl'
      injection hl' with hl'
      subst hl'
      exact ⟨h1, h2, mk1 j len, mk1_length _ _, ho, fun _ => rfl⟩
    · refine ⟨h1, h2, l, h3, ownKp h4 hk (fun z hz e => ?_), fun hj => h5 (by omega)⟩
      have := hc z e
      have := h2 z hz
      omega
  · have := hc z e
    show cl z ≠ M
    omega
/-- the rows are grown, up to i -/
structure Ph3 (w W : World) (cl : Nat → Nat) (q : Nat) (lsv sv : Value) (M : Nat) (vals : List Value) (lens : List Nat) (mv : Value) (mvals : List Value) (i : Nat) : Prop where
  bk : Blk W q #[lsv, mv, sv] 57
  qc : cl q = M + 3
  ls : W.ownsRow 0 22 1 lsv M vals
  lc : ∀ z, lsv.ownBlock = some z → cl z = M + 1
  nl : lens.length = M
  mo : W.ownsRow 0 22 1 mv i mvals
  mc : ∀ z, mv.ownBlock = some z → cl z = M + 2
  row : ∀ (j : Nat) (v : Value) (len : Nat), vals[j]? = some v → lens[j]? = some len → len ≤ 1099511627776 ∧ (∃ A c, v = .slice A len c ∧ Rp (fun z => cl z = j) W A (B8 (mk1 j len))) ∧ (i ≤ j → W.ownsRow 0 5 1 v len (B8 (mk1 j len)) ∧ ∀ z, v.ownBlock = some z → cl z = j)
  mrow : ∀ (j : Nat) (v : Value) (len : Nat), mvals[j]? = some v → lens[j]? = some len → ∃ A c, v = .slice A (len + 70) c ∧ Rp (fun z => cl z = j) W A (B8 (mk2 j len 70))
  bl : Kp (fun z => cl z ≠ M) w W
theorem Ph2.ph3 {w W : World} {cl : Nat → Nat} {q : Nat} {lsv sv : Value} {M : Nat} {vals : List Value} {lens : List Nat} (h : Ph2 w W cl q lsv sv M vals lens M) : Ph3 w W cl q lsv sv M vals lens (.slice none 0 0) [] 0 := by
  refine ⟨h.bk, h.qc, h.ls, h.lc, h.nl, World.ownsRow_nil _ _ _ _, fun z hz => by simp [Value.ownBlock] at hz, fun j v len hv hl => ?_, fun j v len hv => by simp at hv, h.bl⟩
  obtain ⟨h1, h2, l, h3, h4, h5⟩ := h.row j v len hv hl
  have hj := lt_of_some hl
  have := h.nl
  obtain rfl := h5 (by omega)
  obtain ⟨A, c, rfl, _, _⟩ := own_rd h4
  exact ⟨h1, ⟨A, c, rfl, own_rp h4 _ (fun b hb => h2 b hb)⟩, fun _ => ⟨h4, h2⟩⟩
/-- what was read at A is read there still, behind an append -/
theorem rd_app {W W1 : World} {A : Option Addr} {gv : Value} {g nn cap : Nat} {xs r : List Int} (hA : A = none ∨ ∃ u, A = some ⟨u, 0, none⟩) (RA : Rd W A (B8 xs)) (os : W1.ownsRow 0 5 1 (.slice (some ⟨g, 0, none⟩) nn cap) nn (B8 (xs ++ r))) (hc : (gv.ownBlock = some g ∧ W.grownBy W1 (some g)) ∨ (W.heap.size ≤ g ∧ W.grownBy W1 none)) : Rd W1 A (B8 xs) := by
  rcases hc with ⟨_, hg⟩ | ⟨_, hg⟩
  · rcases hA with rfl | ⟨u, rfl⟩
    · rcases RA with h0 | ⟨_, _, h0, _⟩
      · exact .inl h0
      · cases h0
    · by_cases hug : u = g
      · subst hug
        have := own_rdv os
        rw [show B8 (xs ++ r) = B8 xs ++ B8 r by simp [B8]] at this
        exact Rd.pre this
      · rcases RA with h0 | ⟨b, o, h1, hcl⟩
        · exact .inl h0
        · injection h1 with h1
          injection h1 with e1 e2
          subst e1 e2
          refine .inr ⟨u, 0, rfl, fun i hi => ?_⟩
          have h5 := hcl i hi
          rw [List.getElem?_eq_getElem hi] at h5 ⊢
          exact hg.cell h5 (fun he => hug (by injection he))
  · exact RA.below ⟨hg.os, hg.tape, hg.output, hg.size, fun k hk => hg.block k hk (by simp)⟩
/-- row i is grown, and laid behind the others -/
theorem Ph3.next {w W W2 W5 : World} {cl : Nat → Nat} {q : Nat} {lsv sv : Value} {M : Nat} {vals : List Value} {lens : List Nat} {mv mv' : Value} {mvals : List Value} {i : Nat} (h : Ph3 w W cl q lsv sv M vals lens mv mvals i) {A : Option Addr} {c : Nat} {len : Nat} {gv : Value} (hv : vals[i]? = some (.slice A len c)) (hl : lens[i]? = some len)
    (hk : Kp (fun z => (Value.slice A len c).ownBlock = some z) W W2) (og : W2.ownsRow 0 5 1 gv (len + 70) (B8 (mk2 i len 70))) (gb : ∀ z, gv.ownBlock = some z → (Value.slice A len c).ownBlock = some z ∨ W.heap.size ≤ z) (RA : Rd W2 A (B8 (mk1 i len)))
    (os : W5.ownsRow 0 22 1 mv' (i + 1) (mvals ++ [gv])) (hg : W2.grownBy W5 mv.ownBlock) (hat : mv'.ownBlock = mv.ownBlock ∨ ∀ z, mv'.ownBlock = some z → W2.heap.size ≤ z) :
    Ph3 w (W5.setCell ⟨q, 1, none⟩ mv') (fun z => if z < W.heap.size then cl z else if z < W2.heap.size then i else M + 2) q lsv sv M vals lens mv' (mvals ++ [gv]) (i + 1) := by
  obtain ⟨hlen, _, hrow⟩ := h.row i _ len hv hl
  obtain ⟨ho0, hc0⟩ := hrow (Nat.le_refl _)
  have hnl := h.nl
  have hiM := lt_of_some hl
  have hz2 := hk.size
  have hz5 := hg.size
  have hmn := h.mo.1
  have hql := h.bk.lt
  have hqr := h.bk.not_row (by decide) ho0
  have b2 : Blk W2 q #[lsv, mv, sv] 57 := h.bk.kp hk (fun e => hqr e.symm)
  have k5 : Kp (fun z => mv.ownBlock = some z ∨ z = q) W2 (W5.setCell ⟨q, 1, none⟩ mv') := ((Kp.of_grown hg).mono (fun z _ e => Or.inl e)).set q 1 _ (fun _ => .inr rfl)
  have old : ∀ z, z < W.heap.size → (fun z => if z < W.heap.size then cl z else if z < W2.heap.size then i else M + 2) z = cl z := fun z hz => if_pos hz
  have mk2' : W2.ownsRow 0 22 1 mv i mvals := ownKp h.mo hk (fun z hz e => by have := h.mc z hz; have := hc0 z e; omega)
  have move : ∀ {B : Option Addr} {vs : List Value} {j : Nat}, j ≠ i → j < M → Rp (fun z => cl z = j) W B vs → Rp (fun z => (fun z => if z < W.heap.size then cl z else if z < W2.heap.size then i else M + 2) z = j) (W5.setCell ⟨q, 1, none⟩ mv') B vs := fun {B vs j} hji hjM hr => by
    have r1 : Rp (fun z => z < W.heap.size ∧ cl z = j) W B vs := hr.mono (fun b hb hp => ⟨hb, hp⟩)
    refine ((r1.kp hk (fun b _ hp hs => ?_)).kp k5 (fun b _ hp hs => ?_)).mono (fun b _ hp => (old b hp.1).trans hp.2)
    · have := hc0 b hs; have := hp.2; omega
    · have h9 := hp.2
      have := h.qc
      rcases hs with hs | hs
      · have := h.mc b hs; omega
      · subst hs; omega
  have k5o : ∀ {e : TypeId} {m : Nat} {v : Value} {xs : List Value}, W2.ownsRow 0 e 1 v m xs → (∀ z, v.ownBlock = some z → z < W.heap.size ∧ cl z ≠ M + 2 ∧ cl z ≠ M + 3) → (W5.setCell ⟨q, 1, none⟩ mv').ownsRow 0 e 1 v m xs := fun ho hh => ownKp ho k5 (fun z hz e => by
    obtain ⟨_, h1, h2⟩ := hh z hz
    have := h.qc
    rcases e with e | e
    · exact h1 (h.mc z e)
    · subst e; omega)
  refine ⟨(b2.kept hg (b2.not_row (by decide) mk2')).set 1 mv', (old q hql).trans h.qc, k5o (ownKp h.ls hk (fun z hz e => by have := h.lc z hz; have := hc0 z e; omega)) (fun z hz => by have h1 := (own_lt h.ls z hz).2; have h2 := h.lc z hz; omega), fun z hz => (old z (own_lt h.ls z hz).2).trans (h.lc z hz), h.nl, own_set_other os q 1 _ ((b2.kept hg (b2.not_row (by decide) mk2')).not_row (by decide) os), fun z hz => ?_, fun j v len' hv' hl' => ?_, fun j v len' hv' hl' => ?_, ?_⟩
  · rcases hat with e | e
    · rw [e] at hz
      exact (old z (own_lt h.mo z hz).2).trans (h.mc z hz)
    · have := e z hz
      show (if z < W.heap.size then cl z else if z < W2.heap.size then i else M + 2) = M + 2
      rw [if_neg (by omega), if_neg (by omega)]
  · obtain ⟨h1, ⟨A', c', rfl, hr⟩, h3⟩ := h.row j v len' hv' hl'
    have hjM := lt_of_some hl'
    by_cases hji : j = i
    · subst hji
      rw [hv] at hv'
      rw [hl] at hl'
      injection hl' with hl'
      subst hl'
      injection hv' with hv'
      injection hv' with e1 _ e2
      subst e1 e2
      refine ⟨h1, ⟨A, c, rfl, ?_⟩, fun hj => by omega⟩
      have r1 : Rp (fun z => z < W.heap.size ∧ cl z = j) W2 A (B8 (mk1 j len)) := by
        rcases RA with h0 | ⟨b, o, e1, hcl⟩
        · exact .inl h0
        · subst e1
          exact .inr ⟨b, o, rfl, ⟨(own_lt ho0 b rfl).2, hc0 b rfl⟩, hcl⟩
      refine (r1.kp k5 (fun b _ hp hs => ?_)).mono (fun b _ hp => (old b hp.1).trans hp.2)
      have h9 := hp.2
      have := h.qc
      rcases hs with hs | hs
      · have := h.mc b hs; omega
      · subst hs; omega
    · refine ⟨h1, ⟨A', c', rfl, move hji (by omega) hr⟩, fun hj => ?_⟩
      obtain ⟨h4, h5⟩ := h3 (by omega)
      exact ⟨k5o (ownKp h4 hk (fun z hz e => by have := h5 z hz; have := hc0 z e; omega)) (fun z hz => by have h1 := (own_lt h4 z hz).2; have h2 := h5 z hz; omega), fun z hz => (old z (own_lt h4 z hz).2).trans (h5 z hz)⟩
  · have hjM := lt_of_some hl'
    rcases Nat.lt_or_ge j i with hj | hj
    · rw [List.getElem?_append_left (by omega)] at hv'
      obtain ⟨A', c', e1, hr⟩ := h.mrow j v len' hv' hl'
      exact ⟨A', c', e1, move (by omega) (by omega) hr⟩
    · rw [List.getElem?_append_right (by omega)] at hv'
      obtain ⟨y, hy⟩ : ∃ y, j - mvals.length = y := ⟨_, rfl⟩
      rw [hy] at hv'
      match y, hy, hv' with
      | 0, hy, hv' =>
        simp at hv'
        subst hv'
        have hji : j = i := by omega
        subst hji
        rw [hl] at hl'
        injection hl' with hl'
        subst hl'
        obtain ⟨gA, gc, rfl, _, _⟩ := own_rd og
        refine ⟨gA, gc, rfl, ?_⟩
        have og4 := og.kept hg (own_type_ne og mk2' (by decide))
        have og5 := own_set_other og4 q 1 mv' ((b2.kept hg (b2.not_row (by decide) mk2')).not_row (by decide) og4)
        refine own_rp og5 _ (fun b hb => ?_)
        rcases gb b hb with e | e
        · exact (old b (own_lt ho0 b e).2).trans (hc0 b e)
        · have := (own_lt og b hb).2
          show (if b < W.heap.size then cl b else if b < W2.heap.size then j else M + 2) = j
          rw [if_neg (by omega), if_pos this]
      | y + 1, hy, hv' => simp at hv'
  · have hb1 : Kp (fun z => cl z ≠ M) w (W5.setCell ⟨q, 1, none⟩ mv') := (h.bl.step hk (fun z hz e => by have := hc0 z e; show cl z ≠ M; omega)).step k5 (fun z hz e => by
      show cl z ≠ M
      rcases e with e | e
      · have := h.mc z e; omega
      · subst e; have := h.qc; omega)
    exact hb1.mono (fun z hz e => by have hz1 := h.bl.size; show (if z < W.heap.size then cl z else if z < W2.heap.size then i else M + 2) ≠ M; rw [if_pos (by omega)]; exact e)
end Go.Proofs.Ytobklhnechbpaaa
