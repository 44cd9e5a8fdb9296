import Derived.Test.YtlocogccjlecjaaDoorDfaW
/- What Compile answers is one; the automaton of a*b (plain). -/
namespace Go.Proofs.YtlocogccjlecjaaDoor
open Go.RowKit
theorem Pars_det {s : ByteArray} {r r' : Option Rx} {pl pl' : Nat} (h : Pars s r pl) (h' : Pars s r' pl') : r = r' ∧ pl = pl' := by
  cases h with
  | long h1 =>
    cases h' with
    | long _ => exact ⟨rfl, rfl⟩
    | bad h2 _ => omega
    | more h2 _ _ => omega
    | ok h2 _ => omega
  | bad h1 g1 =>
    cases h' with
    | long _ => omega
    | bad h2 g2 => cases Gr_det g1 g2; exact ⟨rfl, rfl⟩
    | more h2 g2 _ => cases Gr_det g1 g2
    | ok h2 g2 => cases Gr_det g1 g2
  | more h1 g1 j1 =>
    cases h' with
    | long _ => omega
    | bad h2 g2 => cases Gr_det g1 g2
    | more h2 g2 _ => cases Gr_det g1 g2; exact ⟨rfl, rfl⟩
    | ok h2 g2 => cases Gr_det g1 g2; omega
  | ok h1 g1 =>
    cases h' with
    | long _ => omega
    | bad h2 g2 => cases Gr_det g1 g2
    | more h2 g2 j2 => cases Gr_det g1 g2; omega
    | ok h2 g2 => cases Gr_det g1 g2; exact ⟨rfl, rfl⟩
section
variable {rs fs : List Nat} {l n m : Nat} {s0 : St} {q q' : List St} {ls ls' : List (List Int)}
theorem cmpC_stay (h : cmpC rs fs l s0 n = some (q, ls)) (hq : q.length ≤ n) (hm : n ≤ m) : cmpC rs fs l s0 m = some (q, ls) := by
  induction hm with
  | refl => exact h
  | @step k hk ih =>
    have h1 : q[k]? = none := List.getElem?_eq_none (Nat.le_trans hq hk)
    simp only [cmpC, ih, h1]
theorem cmpC_none (h : cmpC rs fs l s0 n = none) (hm : n ≤ m) : cmpC rs fs l s0 m = none := by
  induction hm with
  | refl => exact h
  | step _ ih => simp only [cmpC, ih]
end
theorem Cmp.fix {s : ByteArray} {base : Nat} {w : World} {e : Ending} {t0 : Rx} {n0 : Nat} {q0 : List St} {ls0 : List (List Int)} (h : Cmp s base w e) (hp : Pars s (some t0) 0) (hc : cmpT t0 n0 = some (q0, ls0)) (hl : ls0.length = n0) (hq : q0.length = n0) :
    ∃ d, e = .returned (.tuple #[.pointer (some ⟨d, 0, none⟩), .int .i64 0, .int .i64 0]) ∧ Dfa base w d q0 ls0 := by
  cases h with
  | bad h1 => cases (Pars_det h1 hp).1
  | many h1 h2 h3 h4 =>
    cases (Pars_det h1 hp).1
    rename_i n q ls
    unfold cmpT at hc h2 h4
    rcases Nat.lt_or_ge n n0 with h5 | h5
    · rw [cmpC_none h4 h5] at hc; cases hc
    · rw [cmpC_stay hc (by omega) (show n0 ≤ n + 1 by omega)] at h4; cases h4
  | ok h1 hn h2 h3 h4 =>
    cases (Pars_det h1 hp).1
    rename_i d q ls
    unfold cmpT at hc h2
    have h5 : q = q0 ∧ ls = ls0 := by
      rcases Nat.le_total ls.length n0 with h6 | h6
      · have := cmpC_stay h2 (by omega) h6
        rw [hc] at this
        cases this
        exact ⟨rfl, rfl⟩
      · have := cmpC_stay hc (by omega) h6
        rw [h2] at this
        cases this
        exact ⟨rfl, rfl⟩
    obtain ⟨rfl, rfl⟩ := h5
    exact ⟨d, rfl, h4⟩
theorem dfaS_of {t : Rx} {base : Nat} {w : World} {d : Nat} {q : List St} {ls : List (List Int)} (h1 : cmpT t ls.length = some (q, ls)) (hl : q.length = ls.length) (hd : Dfa base w d q ls) : DfaS base w d q ls := by
  have I := cmpI h1 rfl
  have hp := lt_of_some I.first
  refine ⟨hd, fun t ht => ?_, hl, by have := I.le; omega, by omega, fun t ht x hx => ?_⟩
  · obtain ⟨i, hi, rfl⟩ := List.getElem_of_mem ht
    exact (I.rows i _ (List.getElem?_eq_getElem hi)).1
  · obtain ⟨i, hi, rfl⟩ := List.getElem_of_mem ht
    obtain ⟨_, s, _, hr⟩ := I.rows i _ (List.getElem?_eq_getElem hi)
    obtain ⟨c, hc, rfl⟩ := List.getElem_of_mem hx
    rcases hr c hc with ⟨_, h3⟩ | ⟨s', _, h4, h3⟩
    · rw [List.getElem?_eq_getElem hc] at h3
      injection h3 with h3
      exact .inl h3
    · rw [List.getElem?_eq_getElem hc] at h3
      injection h3 with h3
      exact .inr ⟨_, by have := List.idxOf_lt_length_of_mem h4; omega, h3⟩
/-- a*b -/
def asb : ByteArray := ⟨#[97, 42, 98]⟩
def asbT : Rx := .alt .no (.seq (.seq .eps (.loop (.leaf (spanN 97 97)) true true)) (.leaf (spanN 98 98)))
theorem asb_pars : Pars asb (some asbT) 0 := by
  have a1 : Gr asb (.atom 0) (.ok (.leaf (spanN 97 97)) 1) := .atByte (by decide) (by decide) (by decide) (by decide) (by decide)
  have a2 : Gr asb (.atom 2) (.ok (.leaf (spanN 98 98)) 3) := .atByte (by decide) (by decide) (by decide) (by decide) (by decide)
  have s1 : Gr asb (.suf 1 (.leaf (spanN 97 97))) (.ok (.loop (.leaf (spanN 97 97)) true true) 2) := .sufMore (by decide) (.sufEnd (by decide))
  have s2 : Gr asb (.suf 3 (.leaf (spanN 98 98))) (.ok (.leaf (spanN 98 98)) 3) := .sufEnd (by decide)
  have b2 : Gr asb (.brL 2 (.seq .eps (.loop (.leaf (spanN 97 97)) true true))) (.ok (.seq (.seq .eps (.loop (.leaf (spanN 97 97)) true true)) (.leaf (spanN 98 98))) 3) :=
    .brMore (by decide) (by decide) (by decide) a2 s2 (.brEnd (.inl (by decide)))
  have b1 : Gr asb (.brL 0 .eps) (.ok (.seq (.seq .eps (.loop (.leaf (spanN 97 97)) true true)) (.leaf (spanN 98 98))) 3) :=
    .brMore (by decide) (by decide) (by decide) a1 s1 b2
  exact .ok (by decide) (.exOk b1 (.exEnd (by decide)))
def asbQ : List St := [(3, false), (0, true)]
def asbL : List (List Int) := [(List.range 256).map fun b => if b = 97 then 0 else if b = 98 then 1 else -1, List.replicate 256 (-1)]
theorem asb_cmp : cmpT asbT 2 = some (asbQ, asbL) := by kernel_rfl
end Go.Proofs.YtlocogccjlecjaaDoor
