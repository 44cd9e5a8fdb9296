import Derived.Test.YtlcgkdhcdldlfaaDoorFits
namespace Go.Proofs.YtlcgkdhcdldlfaaDoor
open Go.RowKit

/-- a raw node: its parent's place, its token -/
abbrev RNd := Int × Int
def rpar (r : List RNd) (i : Nat) : Int := (r.getD i (0, 0)).1
def rtk (r : List RNd) (i : Nat) : Int := (r.getD i (0, 0)).2
/-- may the raw node not be? -/
def badR (r : List RNd) (v : Int) (i : Nat) : Prop := rtk r i < 1 ∨ v ≤ rtk r i ∨ rpar r i < -1 ∨ (i : Int) ≤ rpar r i
instance (r : List RNd) (v : Int) (i : Nat) : Decidable (badR r v i) := by unfold badR; infer_instance
/-- the tokens of a raw node's way; false: it is not good -/
def wayR (r : List RNd) (v : Int) (i : Nat) : List Int × Bool :=
  if _h : badR r v i then ([], false)
  else if _h1 : rpar r i = -1 then ([rtk r i], true)
  else ((wayR r v (rpar r i).toNat).1 ++ [rtk r i], (wayR r v (rpar r i).toNat).2)
termination_by i
decreasing_by all_goals (unfold badR at _h; omega)
theorem wayR_bad {r : List RNd} {v : Int} {i : Nat} (h : badR r v i) : wayR r v i = ([], false) := by rw [wayR, dif_pos h]
theorem wayR_root {r : List RNd} {v : Int} {i : Nat} (h : ¬ badR r v i) (h1 : rpar r i = -1) : wayR r v i = ([rtk r i], true) := by rw [wayR, dif_neg h, dif_pos h1]
theorem wayR_step {r : List RNd} {v : Int} {i : Nat} (h : ¬ badR r v i) (h1 : rpar r i ≠ -1) : wayR r v i = ((wayR r v (rpar r i).toNat).1 ++ [rtk r i], (wayR r v (rpar r i).toNat).2) := by rw [wayR, dif_neg h, dif_neg h1]
/-- one raw node more, at a depth -/
def addW (r : List RNd) (v : Int) (d : Nat) (ws : List (List Int)) (i : Nat) : List (List Int) :=
  if (wayR r v i).2 = true ∧ (wayR r v i).1.length = d ∧ (wayR r v i).1 ∉ ws then ws ++ [(wayR r v i).1] else ws
def addD (r : List RNd) (v : Int) (ws : List (List Int)) (d k : Nat) : List (List Int) := (List.range k).foldl (addW r v d) ws
/-- the ways of the good nodes of depths 1 to d -/
def waysD (r : List RNd) (v : Int) : Nat → List (List Int)
  | 0 => []
  | d + 1 => addD r v (waysD r v d) (d + 1) r.length
def waysR (r : List RNd) (v : Int) : List (List Int) := waysD r v r.length
theorem addD_succ (r : List RNd) (v : Int) (ws : List (List Int)) (d k : Nat) : addD r v ws d (k + 1) = addW r v d (addD r v ws d k) k := by simp [addD, List.range_succ]

/-- a good way: its tokens, and the ways it goes on from -/
theorem wayR_good (r : List RNd) (v : Int) : ∀ i, i < r.length → (wayR r v i).2 = true → (wayR r v i).1 ≠ [] ∧ (wayR r v i).1.length ≤ i + 1 ∧ (∀ x ∈ (wayR r v i).1, 1 ≤ x) ∧ (1 < (wayR r v i).1.length → ∃ j, j < r.length ∧ (wayR r v j).2 = true ∧ (wayR r v j).1 = (wayR r v i).1.dropLast) := by
  intro i
  induction i using Nat.strongRecOn with
  | _ i ih =>
    intro hi h
    by_cases hb : badR r v i
    · rw [wayR_bad hb] at h; cases h
    · have hb' := hb
      unfold badR at hb'
      by_cases h1 : rpar r i = -1
      · rw [wayR_root hb h1]
        refine ⟨by simp, by simp, fun x hx => by simp at hx; omega, fun h => by simp at h⟩
      · rw [wayR_step hb h1] at h ⊢
        simp only at h ⊢
        have hlt : (rpar r i).toNat < i := by omega
        obtain ⟨g1, g2, g3, g4⟩ := ih (rpar r i).toNat hlt (by omega) h
        refine ⟨by simp, by simp; omega, fun x hx => ?_, fun _ => ⟨(rpar r i).toNat, by omega, h, by simp⟩⟩
        rcases List.mem_append.1 hx with hx | hx
        · exact g3 x hx
        · simp at hx; omega
/-- what holds of the list of ways, ahead of raw node k at depth d -/
structure WaysOk (r : List RNd) (v : Int) (d k : Nat) (ws : List (List Int)) : Prop where
  nodup : ws.Nodup
  good : ∀ w ∈ ws, ∃ i, i < r.length ∧ (wayR r v i).2 = true ∧ (wayR r v i).1 = w
  le : ∀ w ∈ ws, w.length ≤ d
  sorted : ws.Pairwise fun a b => a.length ≤ b.length
  low : ∀ i, i < r.length → (wayR r v i).2 = true → (wayR r v i).1.length < d → (wayR r v i).1 ∈ ws
  now : ∀ i, i < k → (wayR r v i).2 = true → (wayR r v i).1.length = d → (wayR r v i).1 ∈ ws
theorem WaysOk.nil (r : List RNd) (v : Int) : WaysOk r v 0 r.length [] :=
  ⟨List.nodup_nil, fun w h => absurd h (by simp), fun w h => absurd h (by simp), List.Pairwise.nil, fun i _ _ h => absurd h (by omega), fun i hi hg h => absurd (List.length_eq_zero_iff.1 h) (wayR_good r v i hi hg).1⟩
theorem WaysOk.next {r : List RNd} {v : Int} {d : Nat} {ws : List (List Int)} (h : WaysOk r v d r.length ws) : WaysOk r v (d + 1) 0 ws :=
  ⟨h.nodup, h.good, fun w hw => Nat.le_succ_of_le (h.le w hw), h.sorted, fun i hi hg hl => (Nat.lt_or_ge (wayR r v i).1.length d).elim (h.low i hi hg) (fun h2 => h.now i hi hg (by omega)), fun i hi => absurd hi (by omega)⟩
theorem addW_no {r : List RNd} {v : Int} {d i : Nat} {ws : List (List Int)} (h : ¬ ((wayR r v i).2 = true ∧ (wayR r v i).1.length = d ∧ (wayR r v i).1 ∉ ws)) : addW r v d ws i = ws := if_neg h
theorem addW_yes {r : List RNd} {v : Int} {d i : Nat} {ws : List (List Int)} (h1 : (wayR r v i).2 = true) (h2 : (wayR r v i).1.length = d) (h3 : (wayR r v i).1 ∉ ws) : addW r v d ws i = ws ++ [(wayR r v i).1] := if_pos ⟨h1, h2, h3⟩
theorem WaysOk.step {r : List RNd} {v : Int} {d k : Nat} {ws : List (List Int)} (h : WaysOk r v d k ws) (hk : k < r.length) : WaysOk r v d (k + 1) (addW r v d ws k) := by
  by_cases h0 : (wayR r v k).2 = true ∧ (wayR r v k).1.length = d ∧ (wayR r v k).1 ∉ ws
  · obtain ⟨h1, h2, h3⟩ := h0
    rw [addW_yes h1 h2 h3]
    refine ⟨?_, ?_, ?_, ?_, ?_, ?_⟩
    · rw [List.nodup_append]
      refine ⟨h.nodup, by simp, fun a ha b hb => ?_⟩
      simp at hb
      subst hb
      rintro rfl
      exact h3 ha
    · intro w hw
      rcases List.mem_append.1 hw with hw | hw
      · exact h.good w hw
      · simp at hw
        subst hw
        exact ⟨k, hk, h1, rfl⟩
    · intro w hw
      rcases List.mem_append.1 hw with hw | hw
      · exact h.le w hw
      · simp at hw
        subst hw
        omega
    · rw [List.pairwise_append]
      refine ⟨h.sorted, by simp, fun a ha b hb => ?_⟩
      simp at hb
      subst hb
      rw [h2]
      exact h.le a ha
    · exact fun i hi hg hl => List.mem_append_left _ (h.low i hi hg hl)
    · intro i hi hg hl
      rcases Nat.lt_or_ge i k with h4 | h4
      · exact List.mem_append_left _ (h.now i h4 hg hl)
      · obtain rfl : i = k := by omega
        exact List.mem_append_right _ (by simp)
  · rw [addW_no h0]
    refine ⟨h.nodup, h.good, h.le, h.sorted, h.low, fun i hi hg hl => ?_⟩
    rcases Nat.lt_or_ge i k with h4 | h4
    · exact h.now i h4 hg hl
    · obtain rfl : i = k := by omega
      exact Classical.byContradiction fun h5 => h0 ⟨hg, hl, h5⟩
theorem addD_ok {r : List RNd} {v : Int} {d : Nat} {ws : List (List Int)} (h : WaysOk r v d 0 ws) : ∀ k, k ≤ r.length → WaysOk r v d k (addD r v ws d k) := by
  intro k
  induction k with
  | zero => exact fun _ => h
  | succ k ih =>
    intro hk
    rw [addD_succ]
    exact (ih (by omega)).step (by omega)
theorem waysD_ok (r : List RNd) (v : Int) : ∀ d, WaysOk r v d r.length (waysD r v d) := by
  intro d
  induction d with
  | zero => exact WaysOk.nil r v
  | succ d ih => exact addD_ok ih.next r.length (Nat.le_refl _)
theorem waysR_ok (r : List RNd) (v : Int) : WaysOk r v r.length r.length (waysR r v) := waysD_ok r v r.length

/-- where a way stands; -1: nowhere -/
def placeI (ws : List (List Int)) (w : List Int) : Int := if w ∈ ws then (ws.idxOf w : Int) else -1
/-- the node of the i-th way -/
def cleanN (ws : List (List Int)) (i : Nat) : Nd := (if 1 < (ws.getD i []).length then 1 + placeI ws ((ws.getD i []).take ((ws.getD i []).length - 1)) else 0, (ws.getD i []).getD ((ws.getD i []).length - 1) 0, ((ws.getD i []).length : Int))
def cleanL (root : Int) (ws : List (List Int)) (k : Nat) : List Nd := (-1, root, 0) :: (List.range k).map (cleanN ws)
/-- Clean's tree -/
def cleanT (root : Int) (r : List RNd) (v : Int) : List Nd := cleanL root (waysR r v) (min 31 (waysR r v).length)
theorem cleanL_length (root : Int) (ws : List (List Int)) (k : Nat) : (cleanL root ws k).length = k + 1 := by simp [cleanL]
theorem cleanL_succ (root : Int) (ws : List (List Int)) (k : Nat) : cleanL root ws (k + 1) = cleanL root ws k ++ [cleanN ws k] := by simp [cleanL, List.range_succ]
theorem cleanL_at (root : Int) (ws : List (List Int)) (k i : Nat) (h : i < k) : nd (cleanL root ws k) (i + 1) = cleanN ws i := by simp [nd, cleanL, h]
/-- a way's place in the list -/
theorem placeI_get {ws : List (List Int)} (hn : ws.Nodup) {j : Nat} (hj : j < ws.length) : placeI ws (ws.getD j []) = (j : Int) := by
  have e : ws.getD j [] = ws[j] := by simp [hj]
  unfold placeI
  rw [e, if_pos (List.getElem_mem hj), hn.idxOf_getElem j hj]
theorem getD_mem {ws : List (List Int)} {i : Nat} (h : i < ws.length) : ws.getD i [] ∈ ws := by
  have e : ws.getD i [] = ws[i] := by simp [h]
  rw [e]
  exact List.getElem_mem h
theorem mem_getD {ws : List (List Int)} {w : List Int} (h : w ∈ ws) : ∃ j, j < ws.length ∧ ws.getD j [] = w := by
  obtain ⟨j, hj, e⟩ := List.mem_iff_getElem.1 h
  exact ⟨j, hj, by simp [hj, e]⟩
theorem getD_inj {ws : List (List Int)} (hn : ws.Nodup) {i j : Nat} (hi : i < ws.length) (hj : j < ws.length) (h : ws.getD i [] = ws.getD j []) : i = j := by
  have h1 := placeI_get hn hi
  rw [h, placeI_get hn hj] at h1
  omega
/-- a way's own way, and where it stands -/
theorem above {r : List RNd} {v : Int} {i : Nat} (hi : i < (waysR r v).length) : 1 ≤ ((waysR r v).getD i []).length ∧ (∀ x ∈ (waysR r v).getD i [], 1 ≤ x) ∧
    (1 < ((waysR r v).getD i []).length → ∃ j, j < i ∧ (waysR r v).getD j [] = ((waysR r v).getD i []).take (((waysR r v).getD i []).length - 1)) := by
  have hok := waysR_ok r v
  obtain ⟨k, hk, hg, he⟩ := hok.good _ (getD_mem hi)
  obtain ⟨g1, g2, g3, g4⟩ := wayR_good r v k hk hg
  rw [he] at g1 g2 g3 g4
  refine ⟨List.length_pos_iff.2 g1, g3, fun h1 => ?_⟩
  obtain ⟨j, hj, hgj, hej⟩ := g4 h1
  rw [List.dropLast_eq_take] at hej
  have hl : (wayR r v j).1.length = ((waysR r v).getD i []).length - 1 := by rw [hej]; simp
  have hm := hok.low j hj hgj (by omega)
  obtain ⟨q, hq, hqe⟩ := mem_getD hm
  refine ⟨q, ?_, hqe.trans hej⟩
  rcases Nat.lt_or_ge q i with h5 | h5
  · exact h5
  · exfalso
    have hs := hok.sorted
    rw [List.pairwise_iff_getElem] at hs
    rcases Nat.lt_or_ge i q with h6 | h6
    · have h7 := hs i q hi hq h6
      have e1 : (waysR r v).getD i [] = (waysR r v)[i] := by simp [hi]
      have e2 : (waysR r v).getD q [] = (waysR r v)[q] := by simp [hq]
      rw [← e1, ← e2, hqe] at h7
      omega
    · obtain rfl : i = q := by omega
      rw [hqe] at hl h1
      omega
theorem last_getD {w : List Int} (h : 1 ≤ w.length) : w = w.take (w.length - 1) ++ [w.getD (w.length - 1) 0] := by
  have h2 : w.length - 1 < w.length := by omega
  have e : w.getD (w.length - 1) 0 = w[w.length - 1] := by simp [h2]
  rw [e, ← List.take_succ_eq_append_getElem h2, List.take_of_length_le (by omega)]
theorem cleanL_tree (root : Int) (r : List RNd) (v : Int) (k : Nat) (hk : k ≤ (waysR r v).length) (h31 : k ≤ 31) : isT (cleanL root (waysR r v) k) := by
  have hn := (waysR_ok r v).nodup
  refine ⟨by rw [cleanL_length]; omega, by rw [cleanL_length]; omega, rfl, rfl, fun i hi h1 => ?_⟩
  rw [cleanL_length] at hi
  obtain ⟨i, rfl⟩ : ∃ j, i = j + 1 := ⟨i - 1, by omega⟩
  have hik : i < k := by omega
  obtain ⟨a1, a2, a3⟩ := above (r := r) (v := v) (i := i) (by omega)
  have hat : ∀ j, j < k → par (cleanL root (waysR r v) k) (j + 1) = (cleanN (waysR r v) j).1 ∧ tk (cleanL root (waysR r v) k) (j + 1) = (cleanN (waysR r v) j).2.1 ∧ dep (cleanL root (waysR r v) k) (j + 1) = (cleanN (waysR r v) j).2.2 := fun j hj => by
    unfold par tk dep
    rw [cleanL_at root _ k j hj]
    exact ⟨rfl, rfl, rfl⟩
  have hd0 : dep (cleanL root (waysR r v) k) 0 = 0 := rfl
  have htok : 1 ≤ (cleanN (waysR r v) i).2.1 := by
    refine a2 ((cleanN (waysR r v) i).2.1) ?_
    show ((waysR r v).getD i []).getD (((waysR r v).getD i []).length - 1) 0 ∈ _
    generalize (waysR r v).getD i [] = W at a1 ⊢
    have e : W.getD (W.length - 1) 0 = W[W.length - 1]'(by omega) := by simp [show W.length - 1 < W.length by omega]
    rw [e]
    exact List.getElem_mem _
  -- the parent
  have hpar : ∀ j, j < k → (((waysR r v).getD j []).length = 1 ∧ (cleanN (waysR r v) j).1 = 0) ∨ (1 < ((waysR r v).getD j []).length ∧ ∃ q, q < j ∧ (cleanN (waysR r v) j).1 = (q : Int) + 1 ∧ (waysR r v).getD q [] = ((waysR r v).getD j []).take (((waysR r v).getD j []).length - 1)) := fun j hj => by
    obtain ⟨b1, _, b3⟩ := above (r := r) (v := v) (i := j) (by omega)
    by_cases hl : 1 < ((waysR r v).getD j []).length
    · obtain ⟨q, hq, hqe⟩ := b3 hl
      refine .inr ⟨hl, q, hq, ?_, hqe⟩
      unfold cleanN
      simp only
      rw [if_pos hl, ← hqe, placeI_get hn (by omega)]
      omega
    · exact .inl ⟨by omega, by unfold cleanN; simp only; rw [if_neg hl]⟩
  obtain ⟨p1, p2, p3⟩ := hat i hik
  have hdep : dep (cleanL root (waysR r v) k) i ≤ (((waysR r v).getD i []).length : Int) := by
    rcases Nat.eq_zero_or_pos i with h0 | h0
    · subst h0
      rw [hd0]
      omega
    · obtain ⟨i', rfl⟩ : ∃ j, i = j + 1 := ⟨i - 1, by omega⟩
      rw [(hat i' (by omega)).2.2]
      have hs := (waysR_ok r v).sorted
      rw [List.pairwise_iff_getElem] at hs
      have h7 := hs i' (i' + 1) (by omega) (by omega) (by omega)
      have e1 : (waysR r v).getD i' [] = (waysR r v)[i']'(by omega) := by simp [show i' < (waysR r v).length by omega]
      have e2 : (waysR r v).getD (i' + 1) [] = (waysR r v)[i' + 1]'(by omega) := by simp [show i' + 1 < (waysR r v).length by omega]
      rw [← e1, ← e2] at h7
      show (((waysR r v).getD i' []).length : Int) ≤ _
      omega
  have hone : ∀ j, j < i + 1 → 1 ≤ j → ¬ (par (cleanL root (waysR r v) k) j = par (cleanL root (waysR r v) k) (i + 1) ∧ tk (cleanL root (waysR r v) k) j = tk (cleanL root (waysR r v) k) (i + 1)) := by
    rintro j hj hj1 ⟨e1, e2⟩
    obtain ⟨j, rfl⟩ : ∃ q, j = q + 1 := ⟨j - 1, by omega⟩
    obtain ⟨q1, q2, _⟩ := hat j (by omega)
    rw [q1, p1] at e1
    rw [q2, p2] at e2
    obtain ⟨b1, _, _⟩ := above (r := r) (v := v) (i := j) (by omega)
    have hlast : ((waysR r v).getD j []).getD (((waysR r v).getD j []).length - 1) 0 = ((waysR r v).getD i []).getD (((waysR r v).getD i []).length - 1) 0 := e2
    have hinit : ((waysR r v).getD j []).take (((waysR r v).getD j []).length - 1) = ((waysR r v).getD i []).take (((waysR r v).getD i []).length - 1) := by
      rcases hpar j (by omega) with ⟨c1, c2⟩ | ⟨c1, q, c2, c3, c4⟩
      · rcases hpar i hik with ⟨d1, d2⟩ | ⟨d1, q', d2, d3, d4⟩
        · rw [c1, d1]; rfl
        · omega
      · rcases hpar i hik with ⟨d1, d2⟩ | ⟨d1, q', d2, d3, d4⟩
        · omega
        · obtain rfl : q = q' := by omega
          rw [← c4, ← d4]
    have : (waysR r v).getD j [] = (waysR r v).getD i [] := by rw [last_getD b1, last_getD a1, hinit, hlast]
    have := getD_inj hn (by omega) (by omega) this
    omega
  refine ⟨?_, ?_, by rw [p2]; exact htok, ?_, by rw [p3, Nat.add_sub_cancel]; exact hdep, hone⟩
  · rw [p1]
    rcases hpar i hik with ⟨_, h⟩ | ⟨_, q, _, h, _⟩ <;> omega
  · rw [p1]
    rcases hpar i hik with ⟨_, h⟩ | ⟨_, q, _, h, _⟩ <;> omega
  · rw [p1, p3]
    show (((waysR r v).getD i []).length : Int) = _
    rcases hpar i hik with ⟨c1, h⟩ | ⟨c1, q, c2, h, c4⟩
    · rw [h, c1]; exact (by rw [show (0 : Int).toNat = 0 from rfl, hd0]; rfl)
    · rw [h, show ((q : Int) + 1).toNat = q + 1 by omega, (hat q (by omega)).2.2]
      show _ = (((waysR r v).getD q []).length : Int) + 1
      rw [c4, List.length_take]
      omega
theorem cleanT_tree (root : Int) (r : List RNd) (v : Int) : isT (cleanT root r v) := cleanL_tree root r v _ (Nat.min_le_right _ _) (Nat.min_le_left _ _)
/-- the places from the root down to a node's -/
def pathT (t : List Nd) (i : Nat) : List Nat :=
  if _h : 0 < i ∧ par t i < (i : Int) then pathT t (par t i).toNat ++ [i] else [0]
termination_by i
decreasing_by omega
theorem pathT_zero (t : List Nd) : pathT t 0 = [0] := by rw [pathT, dif_neg (by omega)]
theorem pathT_step {t : List Nd} (hT : isT t) {i : Nat} (hi : i < t.length) (h : 0 < i) : pathT t i = pathT t (par t i).toNat ++ [i] ∧ (par t i).toNat < i ∧ par t i = ((par t i).toNat : Int) := by
  obtain ⟨h1, h2, _⟩ := hT.2.2.2.2 i hi h
  exact ⟨by rw [pathT, dif_pos ⟨h, h2⟩], by omega, by omega⟩
theorem pathT_ok {t : List Nd} (hT : isT t) : ∀ i, i < t.length → (pathT t i).length ≤ i + 1 ∧ (∀ x ∈ pathT t i, x ≤ i) ∧ ∃ q, pathT t i = q ++ [i] := by
  intro i
  induction i using Nat.strongRecOn with
  | _ i ih =>
    intro hi
    rcases Nat.eq_zero_or_pos i with rfl | h
    · rw [pathT_zero]; exact ⟨by simp, by simp, [], rfl⟩
    · obtain ⟨e, h1, _⟩ := pathT_step hT hi h
      obtain ⟨g1, g2, _⟩ := ih _ h1 (by omega)
      rw [e]
      refine ⟨by simp; omega, fun x hx => ?_, _, rfl⟩
      rcases List.mem_append.1 hx with hx | hx
      · have := g2 x hx; omega
      · simp at hx; omega
/-- a place of a list of places -/
def gv (p : List Nat) (j : Nat) : Nat := p.getD j 0
theorem gv_get (p : List Nat) (j : Nat) (h : j < p.length) : p[j] = gv p j := by simp [gv, h]
/-- does each node up to the k-th bear the token that is chosen behind the one ahead of it? -/
def goodW (t : List Nd) (ch : List Int) (p : List Nat) (k : Nat) : Prop := ∀ j, j + 1 < k → tk t (gv p (j + 1)) = chv ch (gv p j)
theorem wayT_head (t : List Nd) (ch : List Int) (f a : Nat) : ∃ l, wayT t ch f a = a :: l := by
  cases f with
  | zero => exact ⟨[], rfl⟩
  | succ f =>
    simp only [wayT]
    split
    · exact ⟨[], rfl⟩
    · exact ⟨_, rfl⟩
theorem kid_iff {t : List Nd} (hT : isT t) {p k : Nat} (x : Int) (hk : k < t.length) (h1 : 0 < k) (hp : par t k = (p : Int)) : kid t p x = some k ↔ tk t k = x := by
  rw [kid_some]
  constructor
  · exact fun h => h.2.1.2
  · intro h
    refine ⟨hk, ⟨hp, h⟩, fun j hj hk2 => ?_⟩
    rcases Nat.eq_zero_or_pos j with rfl | h3
    · have := hk2.1
      rw [hT.2.2.1] at this
      omega
    · exact (hT.2.2.2.2 k hk h1).2.2.2.2.2 j hj h3 ⟨hk2.1.trans hp.symm, hk2.2.trans h.symm⟩
/-- the way goes on from a node just as its choice leads -/
theorem way_next {t : List Nd} {ch : List Int} (hT : isT t) (b k : Nat) : ∀ (f a : Nat) (q : List Nat), t.length ≤ f + a → a < t.length → (q ++ [b] ++ [k] <+: wayT t ch f a ↔ q ++ [b] <+: wayT t ch f a ∧ kid t b (chv ch b) = some k) := by
  intro f
  induction f with
  | zero => intro a q hf ha; omega
  | succ f ih =>
    intro a q hf ha
    cases hk : kid t a (chv ch a) with
    | none =>
      rw [wayT_none hk]
      cases q with
      | nil =>
        simp only [List.nil_append, List.cons_append, List.cons_prefix_cons, List.prefix_nil]
        constructor
        · rintro ⟨_, h⟩; cases h
        · rintro ⟨⟨rfl, _⟩, h⟩; rw [hk] at h; cases h
      | cons c q =>
        simp only [List.cons_append, List.cons_prefix_cons, List.prefix_nil]
        constructor
        · rintro ⟨_, h⟩; simp at h
        · rintro ⟨⟨_, h⟩, _⟩; simp at h
    | some c =>
      rw [wayT_some hk]
      obtain ⟨h1, h2⟩ := kid_above hT hk
      cases q with
      | nil =>
        obtain ⟨l, hl⟩ := wayT_head t ch f c
        rw [hl]
        simp only [List.nil_append, List.cons_append, List.cons_prefix_cons, List.nil_prefix, and_true]
        constructor
        · rintro ⟨rfl, rfl⟩; exact ⟨rfl, hk⟩
        · rintro ⟨rfl, h⟩; rw [hk] at h; injection h with h; exact ⟨rfl, h.symm⟩
      | cons d q =>
        simp only [List.cons_append, List.cons_prefix_cons]
        have := ih c q (by omega) h2
        simp only [List.append_assoc, List.cons_append, List.nil_append] at this ⊢
        rw [this, and_assoc]
theorem gv_left (p q : List Nat) (j : Nat) (h : j < p.length) : gv (p ++ q) j = gv p j := by simp [gv, List.getElem?_append_left h]
/-- What follows: the good ones are the beginnings of the way -/
theorem good_in {t : List Nd} {ch : List Int} (hT : isT t) : ∀ i, i < t.length → (goodW t ch (pathT t i) (pathT t i).length ↔ pathT t i <+: way t ch) := by
  intro i
  induction i using Nat.strongRecOn with
  | _ i ih =>
    intro hi
    rcases Nat.eq_zero_or_pos i with rfl | h
    · rw [pathT_zero]
      obtain ⟨l, hl⟩ := wayT_head t ch t.length 0
      unfold way
      rw [hl]
      constructor
      · intro _; simp
      · intro _ j hj; simp at hj
    · obtain ⟨e, h1, h2⟩ := pathT_step hT hi h
      obtain ⟨g1, g2, q, g3⟩ := pathT_ok hT (par t i).toNat (by omega)
      have ih := ih _ h1 (by omega)
      generalize hP : (par t i).toNat = p at *
      have hn := way_next (ch := ch) hT p i t.length 0 q (by omega) (by omega)
      rw [← g3, ← e] at hn
      unfold way at ih ⊢
      rw [hn, ← ih, kid_iff hT _ hi h h2]
      have hlen : (pathT t i).length = (pathT t p).length + 1 := by rw [e]; simp
      have hpl : (pathT t p).length = q.length + 1 := by rw [g3]; simp
      have e1 : gv (pathT t i) (q.length + 1) = i := by rw [e, ← hpl]; simp [gv]
      have e2 : gv (pathT t i) q.length = p := by rw [e, gv_left _ _ _ (by omega), g3]; simp [gv]
      constructor
      · intro hg
        refine ⟨fun j hj => ?_, ?_⟩
        · have := hg j (by omega)
          rw [e, gv_left _ _ _ (by omega), gv_left _ _ _ (by omega)] at this
          exact this
        · have := hg q.length (by omega)
          rw [e1, e2] at this
          exact this
      · rintro ⟨hg, ht⟩ j hj
        rcases Nat.lt_or_ge (j + 1) (pathT t p).length with h3 | h3
        · rw [e, gv_left _ _ _ (by omega), gv_left _ _ _ (by omega)]
          exact hg j h3
        · obtain rfl : j = q.length := by omega
          rw [e1, e2]
          exact ht
theorem prefix_take (p w : List Nat) : p <+: w ↔ p.length ≤ w.length ∧ nats p = (nats w).take p.length := by
  constructor
  · intro h
    obtain ⟨r, rfl⟩ := h
    exact ⟨by simp, by simp [nats, List.map_append]⟩
  · rintro ⟨h1, h2⟩
    have h3 : p = w.take p.length := by
      unfold nats at h2
      rw [← List.map_take] at h2
      exact List.map_inj_right (fun a b h => Int.ofNat.inj h) |>.1 h2
    rw [h3]
    exact List.take_prefix _ _
theorem wayT_chain {t : List Nd} {ch : List Int} (hT : isT t) : ∀ (f a : Nat), a < t.length → ∀ i, i < (wayT t ch f a).length → gv (wayT t ch f a) i < t.length ∧ (i + 1 < (wayT t ch f a).length → par t (gv (wayT t ch f a) (i + 1)) = (gv (wayT t ch f a) i : Int)) := by
  intro f
  induction f with
  | zero =>
    intro a ha i hi
    simp only [wayT, List.length_cons, List.length_nil] at hi ⊢
    obtain rfl : i = 0 := by omega
    exact ⟨ha, fun h => by omega⟩
  | succ f ih =>
    intro a ha i hi
    cases hk : kid t a (chv ch a) with
    | none =>
      rw [wayT_none hk] at hi ⊢
      simp only [List.length_cons, List.length_nil] at hi ⊢
      obtain rfl : i = 0 := by omega
      exact ⟨ha, fun h => by omega⟩
    | some k =>
      obtain ⟨h1, h2⟩ := kid_above hT hk
      have hp := (kid_some.1 hk).2.1.1
      rw [wayT_some hk] at hi ⊢
      have ih := ih k h2
      cases i with
      | zero =>
        refine ⟨ha, fun _ => ?_⟩
        obtain ⟨l, hl⟩ := wayT_head t ch f k
        rw [hl]
        exact hp
      | succ i =>
        simp only [List.length_cons] at hi ⊢
        obtain ⟨g1, g3⟩ := ih i (by omega)
        exact ⟨g1, fun h => g3 (by omega)⟩
theorem wv_nats (l : List Nat) (i : Nat) : wv (nats l) i = (gv l i : Int) := by
  unfold wv nats gv
  rw [List.getD_eq_getElem?_getD, List.getD_eq_getElem?_getD, List.getElem?_map]
  cases l[i]? <;> rfl
theorem way_isWay {t : List Nd} {ch : List Int} (hT : isT t) : isWay t (nats (way t ch)) := by
  have hne : 0 < (way t ch).length := List.length_pos_iff.2 (wayT_ne t ch _ _)
  have h0 : 0 < t.length := hT.1
  refine ⟨by rw [nats_length]; exact hne, fun i hi => ?_⟩
  rw [nats_length] at hi
  have hc := wayT_chain (ch := ch) hT t.length 0 h0
  unfold okAt
  rw [wv_nats, wv_nats, wv_nats]
  have h1 : gv (way t ch) i < t.length := (hc i hi).1
  refine ⟨Int.natCast_nonneg _, Int.ofNat_lt.2 h1, fun _ => ?_, fun h => ?_⟩
  · obtain ⟨l, hl⟩ := wayT_head t ch t.length 0
    unfold way
    rw [hl]
    rfl
  · obtain ⟨i, rfl⟩ : ∃ j, i = j + 1 := ⟨i - 1, by omega⟩
    rw [Nat.add_sub_cancel, Int.toNat_natCast]
    exact (hc i (Nat.lt_of_succ_lt hi)).2 hi
theorem way_len {t : List Nd} {ch : List Int} (hT : isT t) : 0 < (way t ch).length ∧ ∀ x ∈ way t ch, x < t.length := by
  refine ⟨List.length_pos_iff.2 (wayT_ne t ch _ _), fun x hx => ?_⟩
  obtain ⟨i, hi, he⟩ := List.mem_iff_getElem.1 hx
  have := (wayT_chain (ch := ch) hT t.length 0 hT.1 i hi).1
  rw [← he, gv_get _ _ hi]
  exact this
theorem lastW_gv (l : List Nat) : lastW l = gv l (l.length - 1) := by
  unfold lastW gv
  rw [List.getLastD_eq_getLast?, List.getLast?_eq_getElem?, List.getD_eq_getElem?_getD]
end Go.Proofs.YtlcgkdhcdldlfaaDoor
