import Derived.Test.YtlocogccjlecjaaDoorLead
/- What Compile computes, in plain lists: the states in the order in which they are found, a row of numbers for each. -/
namespace Go.Proofs.YtlocogccjlecjaaDoor
open Go.RowKit
/-- does place k stand in m, and read b? -/
def hit (rs : List Nat) (m b k : Nat) : Bool := m.testBit k && (rs.getD k 0).testBit b
def gatE (rs : List Nat) (L : Nat → Bool) (m b : Nat) : Nat → Bool
  | 0 => false
  | k + 1 => gatE rs L m b k || (hit rs m b k && L k)
def gatN (rs fs : List Nat) (m b : Nat) : Nat → Nat
  | 0 => 0
  | k + 1 => gatN rs fs m b k ||| (if hit rs m b k then fs.getD k 0 else 0)
section
variable {rs fs : List Nat} {L : Nat → Bool} {m m' b k i : Nat}
theorem gatE_iff : gatE rs L m b k = true ↔ ∃ p, p < k ∧ hit rs m b p = true ∧ L p = true := by
  induction k with
  | zero => simp [gatE]
  | succ k ih =>
    simp only [gatE, Bool.or_eq_true, Bool.and_eq_true, ih]
    constructor
    · rintro (⟨p, h1, h2⟩ | h)
      · exact ⟨p, by omega, h2⟩
      · exact ⟨k, by omega, h⟩
    · rintro ⟨p, h1, h2⟩
      rcases Nat.lt_or_ge p k with h | h
      · exact .inl ⟨p, h, h2⟩
      · obtain rfl : p = k := by omega
        exact .inr h2
theorem gatN_bit {j : Nat} : (gatN rs fs m b k).testBit j = true ↔ ∃ p, p < k ∧ hit rs m b p = true ∧ (fs.getD p 0).testBit j = true := by
  induction k with
  | zero => simp [gatN]
  | succ k ih =>
    simp only [gatN, Nat.testBit_or, Bool.or_eq_true, ih]
    constructor
    · rintro (⟨p, h1, h2⟩ | h)
      · exact ⟨p, by omega, h2⟩
      · split at h
        · rename_i hh; exact ⟨k, by omega, hh, h⟩
        · simp at h
    · rintro ⟨p, h1, h2, h3⟩
      rcases Nat.lt_or_ge p k with h | h
      · exact .inl ⟨p, h, h2, h3⟩
      · obtain rfl : p = k := by omega
        rw [if_pos h2]
        exact .inr h3
theorem hit_zero (p : Nat) : hit rs 0 b p = false := by simp [hit]
theorem gatE_zero : gatE rs L 0 b k = false := by
  rw [Bool.eq_false_iff, Ne, gatE_iff]
  rintro ⟨p, _, h, _⟩
  rw [hit_zero] at h; cases h
theorem gatN_zero : gatN rs fs 0 b k = 0 := by
  refine Nat.eq_of_testBit_eq (fun j => ?_)
  rw [Nat.zero_testBit, Bool.eq_false_iff, Ne, gatN_bit]
  rintro ⟨p, _, h, _⟩
  rw [hit_zero] at h; cases h
theorem hit_strike (hi : m.testBit i = true) (hs : ∀ j, m'.testBit j = (m.testBit j && decide (j ≠ i))) (p : Nat) : hit rs m b p = true ↔ (p = i ∧ (rs.getD i 0).testBit b = true) ∨ hit rs m' b p = true := by
  unfold hit
  rw [hs]
  by_cases h : p = i
  · subst h
    simp [hi]
  · simp [h]
theorem gatE_strike (hi : m.testBit i = true) (hs : ∀ j, m'.testBit j = (m.testBit j && decide (j ≠ i))) (hk : i < k) : gatE rs L m b k = (((rs.getD i 0).testBit b && L i) || gatE rs L m' b k) := by
  rw [Bool.eq_iff_iff, Bool.or_eq_true, gatE_iff, gatE_iff, Bool.and_eq_true]
  constructor
  · rintro ⟨p, h1, h2, h3⟩
    rcases (hit_strike hi hs p).1 h2 with ⟨rfl, h4⟩ | h4
    · exact .inl ⟨h4, h3⟩
    · exact .inr ⟨p, h1, h4, h3⟩
  · rintro (⟨h1, h2⟩ | ⟨p, h1, h2, h3⟩)
    · exact ⟨i, hk, (hit_strike hi hs i).2 (.inl ⟨rfl, h1⟩), h2⟩
    · exact ⟨p, h1, (hit_strike hi hs p).2 (.inr h2), h3⟩
theorem gatN_strike (hi : m.testBit i = true) (hs : ∀ j, m'.testBit j = (m.testBit j && decide (j ≠ i))) (hk : i < k) : gatN rs fs m b k = (if (rs.getD i 0).testBit b then fs.getD i 0 else 0) ||| gatN rs fs m' b k := by
  refine Nat.eq_of_testBit_eq (fun j => ?_)
  rw [Bool.eq_iff_iff, Nat.testBit_or, Bool.or_eq_true, gatN_bit, gatN_bit]
  constructor
  · rintro ⟨p, h1, h2, h3⟩
    rcases (hit_strike hi hs p).1 h2 with ⟨rfl, h4⟩ | h4
    · rw [if_pos h4]; exact .inl h3
    · exact .inr ⟨p, h1, h4, h3⟩
  · rintro (h1 | ⟨p, h1, h2, h3⟩)
    · split at h1
      · rename_i hb
        exact ⟨i, hk, (hit_strike hi hs i).2 (.inl ⟨rfl, hb⟩), h1⟩
      · simp at h1
    · exact ⟨p, h1, (hit_strike hi hs p).2 (.inr h2), h3⟩
theorem gatN_lt (h : ∀ f ∈ fs, f < 18446744073709551616) : gatN rs fs m b k < 18446744073709551616 := by
  induction k with
  | zero => simp [gatN]
  | succ k ih =>
    simp only [gatN]
    refine Nat.or_lt_two_pow (n := 64) ih ?_
    split
    · rcases Nat.lt_or_ge k fs.length with hk | hk
      · rw [List.getD_eq_getElem?_getD, List.getElem?_eq_getElem hk]; exact h _ (List.getElem_mem hk)
      · rw [List.getD_eq_getElem?_getD, List.getElem?_eq_none hk]; exact Nat.two_pow_pos 64
    · exact Nat.two_pow_pos 64
end
abbrev St := Nat × Bool
/-- the state behind a byte -/
def nxt (rs fs : List Nat) (l m b : Nat) : Option St := if gatE rs (fun _ => true) m b rs.length then some (gatN rs fs m b rs.length, gatE rs l.testBit m b rs.length) else none
/-- a state's row, up to byte b; the states found so far -/
def rowC (rs fs : List Nat) (l m : Nat) : Nat → List St → Option (List St × List Int)
  | 0, q => some (q, [])
  | b + 1, q => match rowC rs fs l m b q with
    | none => none
    | some (q', t) => match nxt rs fs l m b with
      | none => some (q', t ++ [-1])
      | some s => if s ∈ q' then some (q', t ++ [((q'.idxOf s : Nat) : Int)]) else if q'.length = 64 then none else some (q' ++ [s], t ++ [((q'.length : Nat) : Int)])
/-- the rows of the first n states -/
def cmpC (rs fs : List Nat) (l : Nat) (s0 : St) : Nat → Option (List St × List (List Int))
  | 0 => some ([s0], [])
  | n + 1 => match cmpC rs fs l s0 n with
    | none => none
    | some (q, ls) => match q[n]? with
      | none => some (q, ls)
      | some s => match rowC rs fs l s.1 256 q with
        | none => none
        | some (q', t) => some (q', ls ++ [t])
section
variable {rs fs : List Nat} {l m b : Nat} {q q' : List St} {t : List Int}
/-- one byte more: what stood ahead -/
theorem rowC_succ (h : rowC rs fs l m (b + 1) q = some (q', t)) : ∃ q1 t1 x, rowC rs fs l m b q = some (q1, t1) ∧ t = t1 ++ [x] ∧
    ((nxt rs fs l m b = none ∧ x = -1 ∧ q' = q1) ∨ ∃ s, nxt rs fs l m b = some s ∧ ((s ∈ q1 ∧ x = ((q1.idxOf s : Nat) : Int) ∧ q' = q1) ∨ (s ∉ q1 ∧ q1.length ≠ 64 ∧ x = ((q1.length : Nat) : Int) ∧ q' = q1 ++ [s]))) := by
  simp only [rowC] at h
  split at h
  · cases h
  rename_i q1 t1 h1
  split at h
  · rename_i h2
    cases h
    exact ⟨_, _, _, h1, rfl, .inl ⟨h2, rfl, rfl⟩⟩
  rename_i s h2
  split at h
  · rename_i h3
    cases h
    exact ⟨_, _, _, h1, rfl, .inr ⟨s, h2, .inl ⟨h3, rfl, rfl⟩⟩⟩
  rename_i h3
  split at h
  · cases h
  rename_i h4
  cases h
  exact ⟨_, _, _, h1, rfl, .inr ⟨s, h2, .inr ⟨h3, h4, rfl, rfl⟩⟩⟩
theorem rowC_pre : ∀ {b : Nat} {q' : List St} {t : List Int}, rowC rs fs l m b q = some (q', t) → q <+: q' ∧ t.length = b ∧ (q.length ≤ 64 → q'.length ≤ 64) ∧ (q.Nodup → q'.Nodup) := by
  intro b
  induction b with
  | zero => intro q' t h; cases h; exact ⟨List.prefix_refl _, rfl, id, id⟩
  | succ b ih =>
    intro q' t h
    obtain ⟨q1, t1, x, h1, rfl, h2⟩ := rowC_succ h
    obtain ⟨a1, a2, a3, a4⟩ := ih h1
    rcases h2 with ⟨_, _, rfl⟩ | ⟨s, _, ⟨_, _, rfl⟩ | ⟨hn, hl, _, rfl⟩⟩
    · exact ⟨a1, by simp [a2], a3, a4⟩
    · exact ⟨a1, by simp [a2], a3, a4⟩
    · refine ⟨a1.trans (List.prefix_append _ _), by simp [a2], fun h => ?_, fun h => ?_⟩
      · have := a3 h; simp; omega
      · refine List.nodup_append.2 ⟨a4 h, by simp, fun a ha c hc => ?_⟩
        rw [List.mem_singleton.1 hc]
        exact fun e => hn (e ▸ ha)
theorem idx_pre {q q' : List St} {s : St} (h : q <+: q') (hs : s ∈ q) : q'.idxOf s = q.idxOf s := by
  obtain ⟨r, rfl⟩ := h
  rw [List.idxOf_append, if_pos hs]
/-- what a row says -/
def RowOk (rs fs : List Nat) (l m : Nat) (q : List St) (t : List Int) : Prop := ∀ c, c < t.length → (nxt rs fs l m c = none ∧ t[c]? = some (-1)) ∨ ∃ s, nxt rs fs l m c = some s ∧ s ∈ q ∧ t[c]? = some ((q.idxOf s : Nat) : Int)
theorem RowOk.pre (h : RowOk rs fs l m q t) (hp : q <+: q') : RowOk rs fs l m q' t := fun c hc => by
  rcases h c hc with h1 | ⟨s, h1, h2, h3⟩
  · exact .inl h1
  · exact .inr ⟨s, h1, hp.subset h2, by rw [h3, idx_pre hp h2]⟩
theorem rowC_ok : ∀ {b : Nat} {q' : List St} {t : List Int}, rowC rs fs l m b q = some (q', t) → RowOk rs fs l m q' t := by
  intro b
  induction b with
  | zero => intro q' t h; cases h; exact fun c hc => by simp at hc
  | succ b ih =>
    intro q' t h
    have hpre := (rowC_pre h)
    obtain ⟨q1, t1, x, h1, rfl, h2⟩ := rowC_succ h
    have hl1 := (rowC_pre h1).2.1
    have hq : q1 <+: q' := by
      rcases h2 with ⟨_, _, rfl⟩ | ⟨s, _, ⟨_, _, rfl⟩ | ⟨_, _, _, rfl⟩⟩
      · exact List.prefix_refl _
      · exact List.prefix_refl _
      · exact List.prefix_append _ _
    have h3 := (ih h1).pre hq
    intro c hc
    rcases Nat.lt_or_ge c t1.length with hc1 | hc1
    · rw [List.getElem?_append_left hc1]
      exact h3 c hc1
    · have : c = b := by simp at hc; omega
      subst this
      rw [List.getElem?_append_right hc1, hl1, Nat.sub_self]
      rcases h2 with ⟨hn, rfl, rfl⟩ | ⟨s, hs, ⟨hm, rfl, rfl⟩ | ⟨hm, _, rfl, rfl⟩⟩
      · exact .inl ⟨hn, rfl⟩
      · exact .inr ⟨s, hs, hm, rfl⟩
      · refine .inr ⟨s, hs, by simp, ?_⟩
        rw [List.idxOf_append, if_neg hm]
        simp
theorem rowC_mono {b c : Nat} (hbc : b ≤ c) (h : rowC rs fs l m c q = some (q', t)) : ∃ q1, rowC rs fs l m b q = some (q1, t.take b) ∧ q1 <+: q' := by
  induction hbc generalizing q' t with
  | refl => exact ⟨q', by rw [List.take_of_length_le (by rw [(rowC_pre h).2.1]; exact Nat.le_refl _)]; exact h, List.prefix_refl _⟩
  | step hbc ih =>
    obtain ⟨q1, t1, x, h1, rfl, h2⟩ := rowC_succ h
    obtain ⟨q2, h3, h4⟩ := ih h1
    have hl1 := (rowC_pre h1).2.1
    refine ⟨q2, by rw [List.take_append_of_le_length (by rw [hl1]; exact hbc)]; exact h3, ?_⟩
    rcases h2 with ⟨_, _, rfl⟩ | ⟨s, _, ⟨_, _, rfl⟩ | ⟨_, _, _, rfl⟩⟩
    · exact h4
    · exact h4
    · exact h4.trans (List.prefix_append _ _)
end
/-- the automaton, whole -/
def CmpOk (rs fs : List Nat) (l : Nat) (s0 : St) (q : List St) (ls : List (List Int)) : Prop := cmpC rs fs l s0 ls.length = some (q, ls) ∧ q.length = ls.length
section
variable {rs fs : List Nat} {l n : Nat} {s0 : St} {q q' : List St} {ls ls' : List (List Int)}
theorem cmpC_succ (h : cmpC rs fs l s0 (n + 1) = some (q', ls')) (hl : ls'.length = n + 1) : ∃ q ls s t, cmpC rs fs l s0 n = some (q, ls) ∧ q[n]? = some s ∧ rowC rs fs l s.1 256 q = some (q', t) ∧ ls' = ls ++ [t] ∧ ls.length = n := by
  have hle : ∀ n q ls, cmpC rs fs l s0 n = some (q, ls) → ls.length ≤ n := by
    intro n
    induction n with
    | zero => intro q ls h; cases h; simp
    | succ n ih =>
      intro q ls h
      simp only [cmpC] at h
      split at h
      · cases h
      rename_i q1 ls1 h1
      have := ih _ _ h1
      split at h
      · cases h; omega
      split at h
      · cases h
      · cases h; simp; omega
  simp only [cmpC] at h
  split at h
  · cases h
  rename_i q1 ls1 h1
  have h2 := hle _ _ _ h1
  split at h
  · cases h; omega
  rename_i s hs
  split at h
  · cases h
  rename_i q2 t ht
  cases h
  refine ⟨q1, ls1, s, t, h1, hs, ht, rfl, ?_⟩
  simp at hl
  exact hl
/-- what holds of the first n rows -/
structure CmpI (rs fs : List Nat) (l : Nat) (s0 : St) (n : Nat) (q : List St) (ls : List (List Int)) : Prop where
  first : q[0]? = some s0
  nodup : q.Nodup
  le : q.length ≤ 64
  rows : ∀ (i : Nat) (t : List Int), ls[i]? = some t → t.length = 256 ∧ ∃ s : St, q[i]? = some s ∧ RowOk rs fs l s.1 q t
  len : ls.length = n
theorem cmpI : ∀ {n : Nat} {q : List St} {ls : List (List Int)}, cmpC rs fs l s0 n = some (q, ls) → ls.length = n → CmpI rs fs l s0 n q ls := by
  intro n
  induction n with
  | zero => intro q ls h _; cases h; exact ⟨rfl, by simp, by simp, fun i t h => by simp at h, rfl⟩
  | succ n ih =>
    intro q' ls' h hl
    obtain ⟨q, ls, s, t, h1, h2, h3, rfl, h4⟩ := cmpC_succ h hl
    have I := ih h1 h4
    obtain ⟨p1, p2, p3, p4⟩ := rowC_pre h3
    have up : ∀ {i s}, q[i]? = some s → q'[i]? = some s := fun {i s} hi => by
      obtain ⟨r, rfl⟩ := p1
      rw [List.getElem?_append_left (lt_of_some hi)]
      exact hi
    refine ⟨up I.first, p4 I.nodup, p3 I.le, fun i u hi => ?_, hl⟩
    rcases snoc_cases hi with ⟨_, hi⟩ | ⟨rfl, rfl⟩
    · obtain ⟨e1, s', e2, e3⟩ := I.rows i u hi
      exact ⟨e1, s', up e2, e3.pre p1⟩
    · rw [h4]
      exact ⟨p2, s, up h2, rowC_ok h3⟩
/-- an invariant of states -/
theorem cmpC_all {J : St → Prop} (h0 : J s0) (hstep : ∀ s b t, J s → nxt rs fs l s.1 b = some t → J t) : ∀ {n : Nat} {q : List St} {ls : List (List Int)}, cmpC rs fs l s0 n = some (q, ls) → ∀ s ∈ q, J s := by
  have row : ∀ m, (∀ b t, nxt rs fs l m b = some t → J t) → ∀ {b : Nat} {q q' : List St} {t : List Int}, (∀ s ∈ q, J s) → rowC rs fs l m b q = some (q', t) → ∀ s ∈ q', J s := by
    intro m hm b
    induction b with
    | zero => intro q q' t hq h; cases h; exact hq
    | succ b ih =>
      intro q q' t hq h
      obtain ⟨q1, t1, x, h1, rfl, h2⟩ := rowC_succ h
      have h3 := ih hq h1
      rcases h2 with ⟨_, _, rfl⟩ | ⟨s, hs, ⟨_, _, rfl⟩ | ⟨_, _, _, rfl⟩⟩
      · exact h3
      · exact h3
      · intro z hz
        rcases List.mem_append.1 hz with hz | hz
        · exact h3 z hz
        · rw [List.mem_singleton.1 hz]; exact hm _ _ hs
  intro n
  induction n with
  | zero => intro q ls h; cases h; intro s hs; rw [List.mem_singleton.1 hs]; exact h0
  | succ n ih =>
    intro q' ls' h
    simp only [cmpC] at h
    split at h
    · cases h
    rename_i q1 ls1 h1
    have h2 := ih h1
    split at h
    · cases h; exact h2
    rename_i s hs
    split at h
    · cases h
    rename_i q2 t ht
    cases h
    have hsq : s ∈ q1 := List.mem_of_getElem? hs
    exact row s.1 (fun b t => hstep s b t (h2 s hsq)) h2 ht
end
end Go.Proofs.YtlocogccjlecjaaDoor
