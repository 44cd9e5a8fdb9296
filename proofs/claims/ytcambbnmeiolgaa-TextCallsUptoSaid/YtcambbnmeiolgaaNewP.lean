import Derived.Test.YtcambbnmeiolgaaFed
import Derived.Test.YtcambbnmeiolgaaBrg
import Derived.Test.YtcambbnmeiolgaaAllsW
import Derived.Test.YtcambbnmeiolgaaChk
namespace Go.Proofs.Ytcambbnmeiolgaa
open Go.RowKit Go.Shelf
theorem getD_mem {l : List (List Int)} {i : Nat} {x : Int} (h : x ∈ l.getD i []) : ∃ y ∈ l, x ∈ y := by
  rw [List.getD_eq_getElem?_getD] at h
  rcases Nat.lt_or_ge i l.length with hi | hi
  · rw [List.getElem?_eq_getElem hi] at h; exact ⟨_, List.getElem_mem hi, h⟩
  · rw [List.getElem?_eq_none hi] at h; simp at h
theorem build_mem {P : Int → Prop} : ∀ (rest seen : List (Int × Int)) (out ls : List (List Int)), build seen rest out = some ls → (∀ l ∈ out, ∀ x ∈ l, P x) → ∀ l ∈ ls, ∀ x ∈ l, P x := by
  intro rest
  induction rest with
  | nil =>
    intro seen out ls h ho
    simp only [build, Option.some.injEq] at h
    subst h
    exact ho
  | cons p rest ih =>
    intro seen out ls h ho
    rw [build] at h
    split at h
    · cases h
    · split at h
      · cases h
      · refine ih _ _ _ h ?_
        intro l hl x hx
        rcases List.mem_append.1 hl with hl | hl
        · exact ho l hl x hx
        · rw [List.mem_singleton.1 hl] at hx
          rcases List.mem_append.1 hx with hx | hx
          · obtain ⟨y, hy, hx⟩ := getD_mem hx; exact ho y hy x hx
          · obtain ⟨y, hy, hx⟩ := getD_mem hx; exact ho y hy x hx
theorem toks_w16 {bs : List Int} {ps : List (Int × Int)} (hwf : Wf bs ps) : ∀ l ∈ toks bs ps, l.length ≤ 16 ∧ ∀ x ∈ l, 0 ≤ x ∧ x < 256 := by
  intro l hl
  obtain ⟨i, hi, rfl⟩ := List.getElem_of_mem hl
  refine ⟨?_, ?_⟩
  · have := toks_small bs ps i
    unfold tok at this
    rwa [List.getD_eq_getElem?_getD, List.getElem?_eq_getElem hi] at this
  · intro x hx
    have hm : (toks bs ps)[i] ∈ toks bs ps := List.getElem_mem hi
    generalize (toks bs ps)[i] = y at *
    unfold toks at hm
    cases hq : vocF bs ps with
    | none => rw [hq] at hm; cases hm
    | some ls =>
      rw [hq] at hm
      have hb : build [] ps (base0 bs) = some ls := by
        unfold vocF at hq
        split at hq
        · split at hq
          · exact hq
          · cases hq
        · cases hq
      refine build_mem (P := fun x => 0 ≤ x ∧ x < 256) ps [] (base0 bs) ls hb ?_ y hm x hx
      intro l hl x hx
      simp only [base0, List.mem_cons, List.mem_map] at hl
      rcases hl with rfl | ⟨b, hb, rfl⟩
      · cases hx
      · rw [List.mem_singleton.1 hx]
        have := hwf.b b hb
        simp [Lit.wf, IntKind.min, IntKind.max, IntKind.signed, IntKind.bits] at this
        omega
theorem nw_sta {w : World} {B p S : Nat} {sv wv : Value} {bs : List Int} {ps : List (Int × Int)} {strs : List ByteArray} {vals : List Value} {W : World} (hwf : Wf bs ps)
    (h1 : Blk W p (SC wv sv ⟨#[]⟩ (.slice none 0 0) false) 85) (h3 : W.ownsRow w.heap.size 9 1 sv strs.length (strs.map Value.string)) (h4 : W.ownsRow S 34 1 wv (toks bs ps).length vals) (h5 : ∀ (i : Nat) (v : Value), vals[i]? = some v → W.ownsRow B 5 1 v (tok (toks bs ps) i).length (B8 (tok (toks bs ps) i)))
    (hs4 : strs.length ≤ 4) (hb : ∀ s ∈ strs, 1 ≤ s.size ∧ s.size ≤ 16) : Strm W p (toks bs ps) strs [] false := by
  refine ⟨wv, sv, ⟨#[]⟩, ⟨⟨vals, own_base h4 (Nat.zero_le _), ⟨by have := h4.1; omega, fun i v hi => own_base (h5 i v hi) (Nat.zero_le _)⟩, ?_, ?_⟩, ⟨own_base h3 (Nat.zero_le _), ?_⟩, toks_len bs ps, toks_w16 hwf, hs4, hb⟩, h1, rfl⟩
  · exact .inr (h1.not_row (by decide) h4).symm
  · intro v hv
    obtain ⟨i, hi, rfl⟩ := List.getElem_of_mem hv
    exact .inr (h1.not_row (by decide) (h5 i _ (List.getElem?_eq_getElem hi))).symm
  · exact .inr (h1.not_row (by decide) h3).symm
/-- a new stream: its words and stops lie from B on -/
def StrmB (B : Nat) (w : World) (p : Nat) (wds : List (List Int)) (sts : List ByteArray) : Prop :=
  ∃ wv sv vals, Sta w p wv sv wds sts ∧ Blk w p (SC wv sv ⟨#[]⟩ (.slice none 0 0) false) 85 ∧ w.ownsRow B 34 1 wv wds.length vals ∧ WU w B vals wds ∧ w.ownsRow B 9 1 sv sts.length (sts.map Value.string)
theorem StrmB.strm {B : Nat} {w : World} {p : Nat} {wds : List (List Int)} {sts : List ByteArray} (h : StrmB B w p wds sts) : Strm w p wds sts [] false := by
  obtain ⟨wv, sv, vals, h1, h2, _⟩ := h
  exact ⟨wv, sv, ⟨#[]⟩, h1, h2, rfl⟩
theorem nw_staB {w : World} {B p S : Nat} {sv wv : Value} {bs : List Int} {ps : List (Int × Int)} {strs : List ByteArray} {vals : List Value} {W : World} (hwf : Wf bs ps)
    (h1 : Blk W p (SC wv sv ⟨#[]⟩ (.slice none 0 0) false) 85) (h3 : W.ownsRow w.heap.size 9 1 sv strs.length (strs.map Value.string)) (h4 : W.ownsRow S 34 1 wv (toks bs ps).length vals) (h5 : ∀ (i : Nat) (v : Value), vals[i]? = some v → W.ownsRow B 5 1 v (tok (toks bs ps) i).length (B8 (tok (toks bs ps) i)))
    (hs4 : strs.length ≤ 4) (hb : ∀ s ∈ strs, 1 ≤ s.size ∧ s.size ≤ 16) (hB : w.heap.size ≤ B) (hS : w.heap.size ≤ S) : StrmB w.heap.size W p (toks bs ps) strs := by
  refine ⟨wv, sv, vals, ⟨⟨vals, own_base h4 (Nat.zero_le _), ⟨by have := h4.1; omega, fun i v hi => own_base (h5 i v hi) (Nat.zero_le _)⟩, ?_, ?_⟩, ⟨own_base h3 (Nat.zero_le _), ?_⟩, toks_len bs ps, toks_w16 hwf, hs4, hb⟩, h1, own_base h4 hS, ⟨by have := h4.1; omega, fun i v hi => own_base (h5 i v hi) hB⟩, h3⟩
  · exact .inr (h1.not_row (by decide) h4).symm
  · intro v hv
    obtain ⟨i, hi, rfl⟩ := List.getElem_of_mem hv
    exact .inr (h1.not_row (by decide) (h5 i _ (List.getElem?_eq_getElem hi))).symm
  · exact .inr (h1.not_row (by decide) h3).symm
end Go.Proofs.Ytcambbnmeiolgaa
