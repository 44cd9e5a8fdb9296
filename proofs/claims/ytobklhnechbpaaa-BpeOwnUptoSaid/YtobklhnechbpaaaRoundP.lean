import Derived.Test.YtobklhnechbpaaaEncodesW
namespace Go.Proofs.Ytobklhnechbpaaa
open Go.RowKit

theorem joined_mem {P : Int → Prop} (p : Int × Int) {t : Int} (h : P t) : ∀ (n : Nat) (l : List Int), l.length ≤ n → (∀ y ∈ l, P y) → ∀ y ∈ joined p t l, P y := by
  intro n
  induction n with
  | zero => intro l hl _; match l, hl with | [], _ => intro y hy; simp [joined] at hy
  | succ n ih =>
    intro l hl hP
    match l, hl, hP with
    | [], _, _ => intro y hy; simp [joined] at hy
    | [x], _, hP => intro y hy; exact hP y (by simpa [joined] using hy)
    | x :: z :: r, hl, hP =>
      intro y hy
      unfold joined at hy
      split at hy
      · rcases List.mem_cons.1 hy with rfl | hy
        · exact h
        · exact ih r (by simp at hl; omega) (fun q hq => hP q (by simp [hq])) y hy
      · rcases List.mem_cons.1 hy with rfl | hy
        · exact hP _ (by simp)
        · exact ih (z :: r) (by simpa using hl) (fun q hq => hP q (List.mem_cons_of_mem _ hq)) y hy
/-- what holds of each step of joining holds of its end -/
theorem joinAll_ind {n : Nat} {ps : List (Int × Int)} {Q : List Int → Prop} (step : ∀ l, Q l → ∀ (j : Nat) (h : j < ps.length), Q (joined ps[j] (1 + n + j : Nat) l)) : ∀ (k : Nat) (l : List Int), l.length ≤ k → Q l → Q (joinAll n ps l) := by
  intro k
  induction k with
  | zero =>
    intro l hl hQ
    rw [joinAll_none]
    · exact hQ
    · intro h
      have hs : stands l ps[ps.findIdx (stands l)] = true := List.findIdx_getElem
      obtain ⟨i, hi, _⟩ := (stands_iff _ _).1 hs
      omega
  | succ k ih =>
    intro l hl hQ
    by_cases h : ps.findIdx (stands l) < ps.length
    · have hs : stands l ps[ps.findIdx (stands l)] = true := List.findIdx_getElem
      rw [joinAll_step rfl h]
      have := joined_lt ps[ps.findIdx (stands l)] ((1 + n + ps.findIdx (stands l) : Nat) : Int) _ l (Nat.le_refl _) hs
      exact ih _ (by omega) (step l hQ _ h)
    · rw [joinAll_none h]
      exact hQ
theorem flat_cons (ls : List (List Int)) (x : Int) (l : List Int) : flat ls (x :: l) = tok ls x.toNat ++ flat ls l := by simp [flat]
theorem joined_flat {ls : List (List Int)} {p : Int × Int} {t : Nat} (h : tok ls t = tok ls p.1.toNat ++ tok ls p.2.toNat) : ∀ (n : Nat) (l : List Int), l.length ≤ n → flat ls (joined p t l) = flat ls l := by
  intro n
  induction n with
  | zero => intro l hl; match l, hl with | [], _ => simp [joined]
  | succ n ih =>
    intro l hl
    match l, hl with
    | [], _ => simp [joined]
    | [x], _ => simp [joined]
    | x :: y :: r, hl =>
      unfold joined
      split
      · rename_i he
        rw [flat_cons, flat_cons, flat_cons, ih r (by simp at hl; omega), Int.toNat_natCast, h, he.1, he.2, List.append_assoc]
      · rw [flat_cons, flat_cons, ih (y :: r) (by simpa using hl)]
theorem base_flat {bs : List Int} {ps : List (Int × Int)} {ls : List (List Int)} (hT : Toks bs ps ls) : ∀ (x : List Int), (∀ z ∈ x, z ∈ bs) → flat ls (x.map (baseT bs)) = x := by
  intro x
  induction x with
  | nil => intro _; rfl
  | cons z r ih =>
    intro h
    rw [List.map_cons, flat_cons, ih (fun q hq => h q (List.mem_cons_of_mem _ hq))]
    have hz := h z (by simp)
    have hi : bs.idxOf z < bs.length := List.idxOf_lt_length_of_mem hz
    have hb := hT.base _ hi
    rw [List.getElem_idxOf] at hb
    have : tok ls (baseT bs z).toNat = [z] := by
      unfold baseT
      rw [if_pos hz]
      show ls.getD _ [] = _
      rw [← hb]
      congr 1
    rw [this]
    rfl
/-- what Encode answers, decoded, is the text -/
theorem round_ok {bs : List Int} {ps : List (Int × Int)} {ls : List (List Int)} (hq : vocF bs ps = some ls) {x : List Int} (hx : x.all (fun b => decide (b ∈ bs)) = true) : errD bs ps (encL bs ps x) = 0 ∧ bytD bs ps (encL bs ps x) = x := by
  have hT := toks_of hq
  have hxb : ∀ z ∈ x, z ∈ bs := fun z hz => of_decide_eq_true (List.all_eq_true.1 hx z hz)
  have he : encL bs ps x = joinAll bs.length ps (x.map (baseT bs)) := by unfold encL; rw [hq]; simp only; rw [if_pos hx]
  have hf : flat ls (joinAll bs.length ps (x.map (baseT bs))) = x := by
    refine joinAll_ind (Q := fun l => flat ls l = x) (fun l hl j hj => ?_) _ _ (Nat.le_refl _) (base_flat hT x hxb)
    rw [joined_flat (hT.pair j hj).2.2.2.2 _ l (Nat.le_refl _), hl]
  have hal : (joinAll bs.length ps (x.map (baseT bs))).all (okTok ls.length) = true := by
    rw [List.all_eq_true]
    refine joinAll_ind (Q := fun l => ∀ y ∈ l, okTok ls.length y = true) (fun l hl j hj => joined_mem _ ?_ _ l (Nat.le_refl _) hl) _ _ (Nat.le_refl _) ?_
    · have := hT.len
      simp only [okTok, decide_eq_true_eq]
      omega
    · intro y hy
      obtain ⟨z, hz, rfl⟩ := List.mem_map.1 hy
      have hi : bs.idxOf z < bs.length := List.idxOf_lt_length_of_mem (hxb z hz)
      have := hT.len
      unfold baseT
      rw [if_pos (hxb z hz)]
      simp only [okTok, decide_eq_true_eq]
      omega
  unfold errD bytD
  rw [he, hq]
  simp only
  rw [if_pos hal, if_pos hal]
  exact ⟨rfl, hf⟩
/-- no pair stands in what is joined to the end -/
theorem settled (n : Nat) (ps : List (Int × Int)) : ∀ (k : Nat) (l : List Int), l.length ≤ k → ∀ p ∈ ps, stands (joinAll n ps l) p = false := by
  intro k
  induction k with
  | zero =>
    intro l hl p _
    have : (joinAll n ps l).length ≤ l.length := joinAll_len n ps _ l (Nat.le_refl _)
    cases hs : stands (joinAll n ps l) p with
    | false => rfl
    | true =>
      obtain ⟨i, hi, _⟩ := (stands_iff _ _).1 hs
      omega
  | succ k ih =>
    intro l hl p hp
    by_cases h : ps.findIdx (stands l) < ps.length
    · have hs : stands l ps[ps.findIdx (stands l)] = true := List.findIdx_getElem
      rw [joinAll_step rfl h]
      have := joined_lt ps[ps.findIdx (stands l)] ((1 + n + ps.findIdx (stands l) : Nat) : Int) _ l (Nat.le_refl _) hs
      exact ih _ (by omega) p hp
    · rw [joinAll_none h]
      cases hs : stands l p with
      | false => rfl
      | true => exact absurd (List.findIdx_lt_length_of_exists ⟨p, hp, hs⟩) h
/-- fewer pairs first, the others later: the same -/
theorem joinAll_take (n : Nat) (ps : List (Int × Int)) (keep : Nat) : ∀ (k : Nat) (l : List Int), l.length ≤ k → joinAll n ps (joinAll n (ps.take keep) l) = joinAll n ps l := by
  intro k
  induction k with
  | zero =>
    intro l hl
    rw [joinAll_none (ps := ps.take keep)]
    intro h
    have hs : stands l (ps.take keep)[(ps.take keep).findIdx (stands l)] = true := List.findIdx_getElem
    obtain ⟨i, hi, _⟩ := (stands_iff _ _).1 hs
    omega
  | succ k ih =>
    intro l hl
    by_cases h : (ps.take keep).findIdx (stands l) < (ps.take keep).length
    · have hs : stands l (ps.take keep)[(ps.take keep).findIdx (stands l)] = true := List.findIdx_getElem
      have hj : ps.findIdx (stands l) = (ps.take keep).findIdx (stands l) := by
        have h1 : (ps.take keep).findIdx (stands l) < ps.length := by
          have : (ps.take keep).length ≤ ps.length := by rw [List.length_take]; omega
          omega
        refine findIdx_at h1 (by rw [List.getElem_take] at hs; exact hs) (fun j hj p hp => ?_)
        have h2 := List.not_of_lt_findIdx hj
        have h3 : (ps.take keep)[j]'(by omega) = p := by
          rw [List.getElem_take]
          obtain ⟨_, h4⟩ := List.getElem?_eq_some_iff.1 hp
          exact h4
        rw [h3] at h2
        simpa using h2
      have hlt : ps.findIdx (stands l) < ps.length := by
        have : (ps.take keep).length ≤ ps.length := by rw [List.length_take]; omega
        omega
      rw [joinAll_step (ps := ps.take keep) rfl h, joinAll_step (ps := ps) hj (by omega)]
      have he : (ps.take keep)[(ps.take keep).findIdx (stands l)] = ps[(ps.take keep).findIdx (stands l)]'(by omega) := List.getElem_take
      rw [he]
      have := joined_lt (ps.take keep)[(ps.take keep).findIdx (stands l)] ((1 + n + (ps.take keep).findIdx (stands l) : Nat) : Int) _ l (Nat.le_refl _) hs
      rw [he] at this
      exact ih _ (by omega)
    · rw [joinAll_none (ps := ps.take keep) h]
end Go.Proofs.Ytobklhnechbpaaa
