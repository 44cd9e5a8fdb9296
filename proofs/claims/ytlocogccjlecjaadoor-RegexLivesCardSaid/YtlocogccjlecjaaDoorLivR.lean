import Derived.Test.YtlocogccjlecjaaDoorLivQ
/- RegexLives, plain: the states are numbered in the order in which they are found; marks within a round. -/
namespace Go.Proofs.YtlocogccjlecjaaDoor
open Go.RowKit
section
variable {rs fs : List Nat} {l n m s b nx : Nat} {s0 : St} {q q' : List St} {ls ls' : List (List Int)} {t : List Int}
theorem cmpC_pre (hm : m ≤ n) (h : cmpC rs fs l s0 n = some (q, ls)) (hl : ls.length = n) : ∃ qm, cmpC rs fs l s0 m = some (qm, ls.take m) ∧ qm <+: q := by
  induction hm generalizing q ls with
  | refl => exact ⟨q, by rw [List.take_of_length_le (by omega)]; exact h, List.prefix_refl _⟩
  | @step k hk ih =>
    obtain ⟨q1, ls1, s1, t1, h1, h2, h3, rfl, h4⟩ := cmpC_succ h hl
    obtain ⟨qm, h5, h6⟩ := ih h1 h4
    have hk' : m ≤ k := hk
    exact ⟨qm, by rw [List.take_append_of_le_length (show m ≤ ls1.length by omega)]; exact h5, h6.trans (rowC_pre h3).1⟩
/-- so many states are known ahead of row s -/
def CntS (rs fs : List Nat) (l : Nat) (s0 : St) (ls : List (List Int)) (s nx : Nat) : Prop := ∃ qs, cmpC rs fs l s0 s = some (qs, ls.take s) ∧ nx = qs.length
/-- .. within row s, ahead of byte b -/
def Cnt (rs fs : List Nat) (l : Nat) (s0 : St) (ls : List (List Int)) (s b nx : Nat) : Prop := ∃ (qs : List St) (st : St) (t : List Int) (qb : List St), cmpC rs fs l s0 s = some (qs, ls.take s) ∧ qs[s]? = some st ∧ ls[s]? = some t ∧ rowC rs fs l st.1 b qs = some (qb, t.take b) ∧ nx = qb.length
theorem CntS.zero : CntS rs fs l s0 ls 0 1 := ⟨[s0], by rw [List.take_zero]; rfl, rfl⟩
theorem row_at (hls : cmpC rs fs l s0 ls.length = some (q, ls)) (hs : s < ls.length) : ∃ (qs qn : List St) (st : St) (t : List Int), cmpC rs fs l s0 s = some (qs, ls.take s) ∧ cmpC rs fs l s0 (s + 1) = some (qn, ls.take (s + 1)) ∧ qs[s]? = some st ∧ ls[s]? = some t ∧ t.length = 256 ∧ rowC rs fs l st.1 256 qs = some (qn, t) := by
  obtain ⟨qn, h1, h2⟩ := cmpC_pre (show s + 1 ≤ ls.length from hs) hls rfl
  obtain ⟨qs, ls1, st, t, h3, h4, h5, h6, h7⟩ := cmpC_succ h1 (by rw [List.length_take]; omega)
  have ht : ls[s]? = some t := by
    have h8 : (ls.take (s + 1))[s]? = some t := by rw [h6, ← h7, List.getElem?_append_right (Nat.le_refl _), Nat.sub_self]; rfl
    rwa [List.getElem?_take_of_lt (by omega)] at h8
  have hls1 : ls1 = ls.take s := by
    have h8 : (ls.take (s + 1)).take s = ls1 := by rw [h6, List.take_append_of_le_length (by omega), List.take_of_length_le (by omega)]
    rw [List.take_take, Nat.min_eq_left (by omega)] at h8
    exact h8.symm
  subst hls1
  exact ⟨qs, qn, st, t, h3, h1, h4, ht, (rowC_pre h5).2.1, h5⟩
theorem CntS.row (hls : cmpC rs fs l s0 ls.length = some (q, ls)) (hs : s < ls.length) (h : CntS rs fs l s0 ls s nx) : Cnt rs fs l s0 ls s 0 nx ∧ s < nx := by
  obtain ⟨qs, qn, st, t, h1, h2, h3, h4, h5, h6⟩ := row_at hls hs
  obtain ⟨qs', h7, rfl⟩ := h
  rw [h1] at h7
  cases h7
  exact ⟨⟨qs, st, t, qs, h1, h3, h4, rfl, rfl⟩, lt_of_some h3⟩
theorem Cnt.step (hls : cmpC rs fs l s0 ls.length = some (q, ls)) (hs : s < ls.length) (hb : b < 256) (h : Cnt rs fs l s0 ls s b nx) : ∃ (t : List Int) (x : Int) (nx' : Nat), ls[s]? = some t ∧ t[b]? = some x ∧ Cnt rs fs l s0 ls s (b + 1) nx' ∧ ((x = -1 ∧ nx' = nx) ∨ (∃ k : Nat, k < nx ∧ x = ((k : Nat) : Int) ∧ nx' = nx) ∨ (x = ((nx : Nat) : Int) ∧ nx' = nx + 1)) := by
  obtain ⟨qs, qn, st, t, h1, h2, h3, h4, h5, h6⟩ := row_at hls hs
  obtain ⟨qs', st', t', qb, g1, g2, g3, g4, rfl⟩ := h
  rw [h1] at g1
  cases g1
  rw [h3] at g2
  cases g2
  rw [h4] at g3
  cases g3
  obtain ⟨q1, h7, h8⟩ := rowC_mono (show b + 1 ≤ 256 by omega) h6
  obtain ⟨q2, t2, x, h9, h10, h11⟩ := rowC_succ h7
  rw [g4] at h9
  cases h9
  have hx : t[b]? = some x := by
    have hl : (t.take b).length = b := by rw [List.length_take]; omega
    have h12 : (t.take (b + 1))[b]? = some x := by rw [h10, List.getElem?_append_right (by omega), hl, Nat.sub_self]; rfl
    rwa [List.getElem?_take_of_lt (by omega)] at h12
  refine ⟨t, x, q1.length, h4, hx, ⟨qs, st, t, q1, h1, h3, h4, h7, rfl⟩, ?_⟩
  rcases h11 with ⟨_, rfl, rfl⟩ | ⟨u, _, ⟨hu, rfl, rfl⟩ | ⟨_, _, rfl, rfl⟩⟩
  · exact .inl ⟨rfl, rfl⟩
  · exact .inr (.inl ⟨_, List.idxOf_lt_length_of_mem hu, rfl, rfl⟩)
  · exact .inr (.inr ⟨rfl, by simp⟩)
theorem Cnt.stop (hls : cmpC rs fs l s0 ls.length = some (q, ls)) (hs : s < ls.length) (h : Cnt rs fs l s0 ls s 256 nx) : CntS rs fs l s0 ls (s + 1) nx := by
  obtain ⟨qs, qn, st, t, h1, h2, h3, h4, h5, h6⟩ := row_at hls hs
  obtain ⟨qs', st', t', qb, g1, g2, g3, g4, rfl⟩ := h
  rw [h1] at g1
  cases g1
  rw [h3] at g2
  cases g2
  rw [h4] at g3
  cases g3
  rw [List.take_of_length_le (by omega), h6] at g4
  cases g4
  exact ⟨qn, h2, rfl⟩
theorem CntS.last (hls : cmpC rs fs l s0 ls.length = some (q, ls)) (hq : q.length = ls.length) (h : CntS rs fs l s0 ls ls.length nx) : nx = ls.length := by
  obtain ⟨qs, h1, rfl⟩ := h
  rw [hls, List.take_of_length_le (Nat.le_refl _)] at h1
  cases h1
  exact hq
theorem Cnt.le (hls : cmpC rs fs l s0 ls.length = some (q, ls)) (hq : q.length = ls.length) (hs : s < ls.length) (hb : b ≤ 256) (h : Cnt rs fs l s0 ls s b nx) : nx ≤ ls.length := by
  obtain ⟨qs, qn, st, t, h1, h2, h3, h4, h5, h6⟩ := row_at hls hs
  obtain ⟨qs', st', t', qb, g1, g2, g3, g4, rfl⟩ := h
  rw [h1] at g1
  cases g1
  rw [h3] at g2
  cases g2
  rw [h4] at g3
  cases g3
  obtain ⟨q1, h7, h8⟩ := rowC_mono hb h6
  rw [g4] at h7
  cases h7
  obtain ⟨qm, h9, h10⟩ := cmpC_pre (show s + 1 ≤ ls.length from hs) hls rfl
  rw [h2] at h9
  cases h9
  have := h8.length_le
  have := h10.length_le
  omega
end
/-- marks, a part of a round: the states below s are through -/
structure RndU (ls : List (List Int)) (s : Nat) (a b : List Bool) : Prop where
  len : b.length = a.length
  up : ∀ i : Nat, a[i]? = some true → b[i]? = some true
  edge : ∀ (x y c : Nat) (t : List Int), x < s → ls[x]? = some t → c < 256 → t[c]? = some ((y : Nat) : Int) → a[y]? = some true → x < a.length → b[x]? = some true
theorem RndU.zero (ls : List (List Int)) (a : List Bool) : RndU ls 0 a a := ⟨rfl, fun _ h => h, fun x y c t h => by omega⟩
theorem RndU.all {ls : List (List Int)} {a b : List Bool} {n : Nat} (h : RndU ls n a b) (hn : a.length = n) : Rnd ls a b := ⟨h.len, h.up, fun x y c t h1 h2 h3 h4 h5 => h.edge x y c t (by omega) h1 h2 h3 h4 h5⟩
/-- within state s, ahead of byte c -/
def RndC (ls : List (List Int)) (s c : Nat) (a b : List Bool) : Prop := RndU ls s a b ∧ (b[s]? = some true ∨ ∀ (t : List Int) (k y : Nat), k < c → ls[s]? = some t → t[k]? = some ((y : Nat) : Int) → a[y]? ≠ some true)
theorem RndC.zero {ls : List (List Int)} {s : Nat} {a b : List Bool} (h : RndU ls s a b) : RndC ls s 0 a b := ⟨h, .inr (fun t k y hk => by omega)⟩
theorem RndC.stop {ls : List (List Int)} {s c : Nat} {a b : List Bool} (h : RndC ls s c a b) (hc : b[s]? = some true ∨ c = 256) : RndU ls (s + 1) a b := by
  refine ⟨h.1.len, h.1.up, fun x y k t hx h1 h2 h3 h4 h5 => ?_⟩
  rcases Nat.lt_or_ge x s with h6 | h6
  · exact h.1.edge x y k t h6 h1 h2 h3 h4 h5
  · obtain rfl : x = s := by omega
    rcases hc with hc | rfl
    · exact hc
    · rcases h.2 with h7 | h7
      · exact h7
      · exact absurd h4 (h7 t k y h2 h1 h3)
theorem RndC.hit {ls : List (List Int)} {s c : Nat} {a b : List Bool} (h : RndC ls s c a b) (hs : s < b.length) : RndC ls s (c + 1) a (b.set s true) := by
  have hset : ∀ i : Nat, b[i]? = some true → (b.set s true)[i]? = some true := fun i hi => by
    by_cases e : s = i
    · subst e; exact List.getElem?_set_self hs
    · rw [List.getElem?_set_ne e]; exact hi
  exact ⟨⟨by rw [List.length_set]; exact h.1.len, fun i hi => hset i (h.1.up i hi), fun x y k t hx h1 h2 h3 h4 h5 => hset x (h.1.edge x y k t hx h1 h2 h3 h4 h5)⟩, .inl (by rw [List.getElem?_set_self hs])⟩
theorem RndC.miss {ls : List (List Int)} {s c : Nat} {a b : List Bool} {t : List Int} {x : Int} (h : RndC ls s c a b) (hs : b[s]? = some false) (ht : ls[s]? = some t) (hx : t[c]? = some x) (hm : ∀ y : Nat, x = ((y : Nat) : Int) → b[y]? ≠ some true) : RndC ls s (c + 1) a (b.set s false) := by
  have hset : b.set s false = b := by
    refine List.ext_getElem? (fun i => ?_)
    by_cases e : s = i
    · subst e; rw [hs]; exact List.getElem?_set_self (lt_of_some hs)
    · rw [List.getElem?_set_ne e]
  rw [hset]
  refine ⟨h.1, .inr (fun t' k y hk h1 h2 => ?_)⟩
  rw [ht] at h1
  cases h1
  rcases Nat.lt_or_ge k c with h3 | h3
  · rcases h.2 with h4 | h4
    · rw [hs] at h4; cases h4
    · exact h4 t k y h3 ht h2
  · obtain rfl : k = c := by omega
    rw [hx] at h2
    cases h2
    exact fun e => hm y rfl (h.1.up y e)
/-- from every state of Compile's automaton a text leads to one that accepts -/
theorem pars_live {s : ByteArray} {t : Rx} {pl : Nat} {q : List St} {ls : List (List Int)} (h : Pars s (some t) pl) (hn : neT t) (h1 : cmpT t ls.length = some (q, ls)) (hl : q.length = ls.length) : ∀ i, i < q.length → Live q ls i := by
  have hok : okT t := by cases h with | ok _ hg => exact Gr_okT hg trivial _ _ rfl
  have h0 : (rdF t [] []).1.e = true ∨ ∃ p, p < (rdF t [] []).2.1.length ∧ (rdF t [] []).1.f.testBit p = true := by
    cases he : (rdF t [] []).1.e with
    | true => exact .inl rfl
    | false =>
      obtain ⟨p, hp⟩ := some_bit (rdF_first t hok [] [] he)
      have h2 := ((rdF_bits t [] []).1 p hp).2
      have h3 := (rdF_len t [] []).1
      exact .inr ⟨p, by omega, hp⟩
  exact fun i hi => live_all (plsOk_of hok hn) h0 (fol_of t) h1 rfl hl i (by omega)
end Go.Proofs.YtlocogccjlecjaaDoor
