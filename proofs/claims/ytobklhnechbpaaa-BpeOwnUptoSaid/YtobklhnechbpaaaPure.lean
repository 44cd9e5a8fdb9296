/- The plain model of a vocabulary: its tokens' bytes, if it is right. -/
namespace Go.Proofs.Ytobklhnechbpaaa

/-- the tokens of the pairs, one after the other -/
def build : List (Int × Int) → List (Int × Int) → List (List Int) → Option (List (List Int))
  | _, [], out => some out
  | seen, p :: rest, out =>
    if p ∈ seen ∨ p.1 < 1 ∨ p.2 < 1 ∨ (out.length : Int) ≤ p.1 ∨ (out.length : Int) ≤ p.2 then none
    else if 16 < (out.getD p.1.toNat [] ++ out.getD p.2.toNat []).length then none
    else build (seen ++ [p]) rest (out ++ [out.getD p.1.toNat [] ++ out.getD p.2.toNat []])
def base0 (bs : List Int) : List (List Int) := [] :: bs.map fun b => [b]
def fits (n m : Nat) : Prop := 1 ≤ n ∧ n ≤ 48 ∧ 1 + n + m ≤ 64
instance (n m : Nat) : Decidable (fits n m) := by unfold fits; infer_instance
/-- all tokens' bytes; none: it is no vocabulary -/
def vocF (bs : List Int) (ps : List (Int × Int)) : Option (List (List Int)) :=
  if fits bs.length ps.length then if bs.Nodup then build [] ps (base0 bs) else none else none
theorem base0_length (bs : List Int) : (base0 bs).length = 1 + bs.length := by simp [base0]; omega

/-- does the byte at that place stand ahead of it? -/
def dupAt {α : Type} [DecidableEq α] (xs : List α) (k : Nat) : Bool := match xs[k]? with | some x => decide (x ∈ xs.take k) | none => false
theorem nodup_take {α : Type} [DecidableEq α] (xs : List α) (k : Nat) (h : k < xs.length) : (xs.take (k + 1)).Nodup ↔ (xs.take k).Nodup ∧ xs[k] ∉ xs.take k := by
  rw [List.take_succ_eq_append_getElem h, List.nodup_append]
  constructor
  · rintro ⟨h1, _, h3⟩
    exact ⟨h1, fun hm => h3 _ hm _ (by simp) rfl⟩
  · rintro ⟨h1, h2⟩
    exact ⟨h1, by simp, fun a ha b hb => by
      simp at hb
      subst hb
      rintro rfl
      exact h2 ha⟩
theorem not_nodup_take {α : Type} [DecidableEq α] (xs : List α) (k : Nat) (h : k < xs.length) (hm : xs[k] ∈ xs.take k) : ¬ xs.Nodup := by
  intro hn
  have := (List.Nodup.sublist (List.take_sublist (k + 1) xs) hn)
  exact ((nodup_take xs k h).1 this).2 hm

theorem build_none_seen {seen rest : List (Int × Int)} {p : Int × Int} {out : List (List Int)} (h : p ∈ seen ∨ p.1 < 1 ∨ p.2 < 1 ∨ (out.length : Int) ≤ p.1 ∨ (out.length : Int) ≤ p.2) : build seen (p :: rest) out = none := by
  rw [build, if_pos h]
theorem build_none_long {seen rest : List (Int × Int)} {p : Int × Int} {out : List (List Int)} (h : 16 < (out.getD p.1.toNat [] ++ out.getD p.2.toNat []).length) : build seen (p :: rest) out = none := by
  rw [build]
  split
  · rfl
  · first | rfl | rw [if_pos h]
theorem build_step {seen rest : List (Int × Int)} {p : Int × Int} {out : List (List Int)} (h : ¬ (p ∈ seen ∨ p.1 < 1 ∨ p.2 < 1 ∨ (out.length : Int) ≤ p.1 ∨ (out.length : Int) ≤ p.2))
    (h' : ¬ (16 < (out.getD p.1.toNat [] ++ out.getD p.2.toNat []).length)) : build seen (p :: rest) out = build (seen ++ [p]) rest (out ++ [out.getD p.1.toNat [] ++ out.getD p.2.toNat []]) := by
  rw [build, if_neg h, if_neg h']
theorem drop_cons {α : Type} (xs : List α) (k : Nat) (h : k < xs.length) : xs.drop k = xs[k] :: xs.drop (k + 1) := List.drop_eq_getElem_cons h
/-- each token has at most 16 bytes -/
theorem build_small : ∀ (rest seen : List (Int × Int)) (out ls : List (List Int)), build seen rest out = some ls → (∀ l ∈ out, l.length ≤ 16) → ls.length = out.length + rest.length ∧ (∀ l ∈ ls, l.length ≤ 16) ∧ out <+: ls := by
  intro rest
  induction rest with
  | nil =>
    intro seen out ls h ho
    simp only [build, Option.some.injEq] at h
    subst h
    exact ⟨by simp, ho, List.prefix_refl _⟩
  | cons p rest ih =>
    intro seen out ls h ho
    rw [build] at h
    split at h
    · cases h
    · split at h
      · cases h
      · rename_i _ h2
        obtain ⟨h3, h4, h5⟩ := ih _ _ _ h (by
          intro l hl
          rcases List.mem_append.1 hl with hl | hl
          · exact ho l hl
          · simp only [List.mem_singleton] at hl
            subst hl
            omega)
        refine ⟨by rw [h3]; simp; omega, h4, List.IsPrefix.trans (List.prefix_append _ _) h5⟩
end Go.Proofs.Ytobklhnechbpaaa
