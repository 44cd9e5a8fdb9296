import Derived.Test.YtobklhnechbpaaaPlain
/- Joining, and what Encode answers. -/
namespace Go.Proofs.Ytobklhnechbpaaa

/-- does the pair stand at that place? -/
def atP (l : List Int) (p : Int × Int) (i : Nat) : Bool := decide (l[i]? = some p.1 ∧ l[i + 1]? = some p.2)
def stands (l : List Int) (p : Int × Int) : Bool := (List.range l.length).any (atP l p)
theorem stands_iff (l : List Int) (p : Int × Int) : stands l p = true ↔ ∃ i, i + 1 < l.length ∧ atP l p i = true := by
  simp only [stands, List.any_eq_true, List.mem_range]
  constructor
  · rintro ⟨i, hi, h⟩
    refine ⟨i, ?_, h⟩
    simp only [atP, decide_eq_true_eq] at h
    exact (List.getElem?_eq_some_iff.1 h.2).1
  · rintro ⟨i, hi, h⟩
    exact ⟨i, by omega, h⟩
/-- the pair becomes a token wherever it stands, from the left -/
def joined (p : Int × Int) (t : Int) : List Int → List Int
  | [] => []
  | [x] => [x]
  | x :: y :: r => if x = p.1 ∧ y = p.2 then t :: joined p t r else x :: joined p t (y :: r)
theorem joined_len (p : Int × Int) (t : Int) : ∀ (n : Nat) (l : List Int), l.length ≤ n → (joined p t l).length ≤ l.length := by
  intro n
  induction n with
  | zero => intro l hl; match l, hl with | [], _ => simp [joined]
  | succ n ih =>
    intro l hl
    match l, hl with
    | [], _ => simp [joined]
    | [x], _ => simp [joined]
    | x :: y :: r, hl =>
      unfold joined
      split
      · have := ih r (by simp at hl; omega)
        simp; omega
      · have := ih (y :: r) (by simpa using hl)
        simp at *; omega
theorem joined_lt (p : Int × Int) (t : Int) : ∀ (n : Nat) (l : List Int), l.length ≤ n → stands l p = true → (joined p t l).length < l.length := by
  intro n
  induction n with
  | zero => intro l hl h; match l, hl with | [], _ => simp [stands] at h
  | succ n ih =>
    intro l hl h
    obtain ⟨i, hi, ha⟩ := (stands_iff l p).1 h
    match l, hl, hi, ha with
    | [], _, hi, _ => simp at hi
    | [x], _, hi, _ => simp at hi
    | x :: y :: r, hl, hi, ha =>
      unfold joined
      split
      · have := joined_len p t n r (by simp at hl; omega)
        simp; omega
      · rename_i hne
        cases i with
        | zero =>
          simp [atP] at ha
          exact absurd ha hne
        | succ i =>
          have := ih (y :: r) (by simpa using hl) ((stands_iff _ _).2 ⟨i, by simpa using hi, by simpa [atP] using ha⟩)
          simp at *; omega
theorem joined_at {p : Int × Int} {t : Int} {l : List Int} {i : Nat} (h : atP l p i = true) : joined p t (l.drop i) = t :: joined p t (l.drop (i + 2)) := by
  simp only [atP, decide_eq_true_eq] at h
  obtain ⟨h1, e1⟩ := List.getElem?_eq_some_iff.1 h.1
  obtain ⟨h2, e2⟩ := List.getElem?_eq_some_iff.1 h.2
  rw [drop_cons l i h1, drop_cons l (i + 1) h2, e1, e2, joined, if_pos ⟨rfl, rfl⟩]
theorem joined_not {p : Int × Int} {t : Int} {l : List Int} {i : Nat} (hi : i < l.length) (h : atP l p i = false) : joined p t (l.drop i) = l[i] :: joined p t (l.drop (i + 1)) := by
  simp only [atP, decide_eq_false_iff_not] at h
  rw [drop_cons l i hi]
  rcases Nat.lt_or_ge (i + 1) l.length with h2 | h2
  · rw [drop_cons l (i + 1) h2, joined, if_neg]
    rintro ⟨a, b⟩
    exact h ⟨by rw [List.getElem?_eq_getElem hi, a], by rw [List.getElem?_eq_getElem h2, b]⟩
  · rw [List.drop_of_length_le h2]
    rfl
/-- the first pair that stands somewhere is joined, again and again -/
def joinAll (n : Nat) (ps : List (Int × Int)) (l : List Int) : List Int :=
  if h : ps.findIdx (stands l) < ps.length then joinAll n ps (joined (ps[ps.findIdx (stands l)]'h) (1 + n + ps.findIdx (stands l) : Nat) l) else l
termination_by l.length
decreasing_by exact joined_lt _ _ _ l (Nat.le_refl _) (List.findIdx_getElem (w := h))
theorem joinAll_none {n : Nat} {ps : List (Int × Int)} {l : List Int} (h : ¬ ps.findIdx (stands l) < ps.length) : joinAll n ps l = l := by
  rw [joinAll, dif_neg h]
theorem joinAll_step {n : Nat} {ps : List (Int × Int)} {l : List Int} {j : Nat} (hj : ps.findIdx (stands l) = j) (h : j < ps.length) : joinAll n ps l = joinAll n ps (joined ps[j] (1 + n + j : Nat) l) := by
  subst hj
  conv => lhs; rw [joinAll, dif_pos h]
theorem joinAll_len (n : Nat) (ps : List (Int × Int)) : ∀ (k : Nat) (l : List Int), l.length ≤ k → (joinAll n ps l).length ≤ l.length := by
  intro k
  induction k with
  | zero => intro l hl; rw [joinAll]; split
            · rename_i h
              have := joined_lt (ps[ps.findIdx (stands l)]'h) (1 + n + ps.findIdx (stands l) : Nat) _ l (Nat.le_refl _) (List.findIdx_getElem (w := h))
              omega
            · omega
  | succ k ih =>
    intro l hl
    rw [joinAll]
    split
    · rename_i h
      have h1 := joined_lt (ps[ps.findIdx (stands l)]'h) (1 + n + ps.findIdx (stands l) : Nat) _ l (Nat.le_refl _) (List.findIdx_getElem (w := h))
      have h2 := ih _ (show (joined (ps[ps.findIdx (stands l)]'h) (1 + n + ps.findIdx (stands l) : Nat) l).length ≤ k by omega)
      omega
    · omega
/-- the token of a byte; 0: none -/
def baseT (bs : List Int) (b : Int) : Int := if b ∈ bs then (bs.idxOf b : Int) + 1 else 0
def errE (bs : List Int) (ps : List (Int × Int)) (x : List Int) : Int := match vocF bs ps with | none => 50 | some _ => if x.all (fun b => decide (b ∈ bs)) then 0 else 51
def encL (bs : List Int) (ps : List (Int × Int)) (x : List Int) : List Int := match vocF bs ps with | none => [] | some _ => if x.all (fun b => decide (b ∈ bs)) then joinAll bs.length ps (x.map (baseT bs)) else []
end Go.Proofs.Ytobklhnechbpaaa
