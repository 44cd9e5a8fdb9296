import Derived.Test.YtlcgkdhcdldlfaaDoorTake
import Derived.Test.YtlcgkdhcdldlfaaDoorCleanP
namespace Go.Proofs.YtlcgkdhcdldlfaaDoor
open Go.RowKit

/-- the tokens of a node's way, root left out -/
def behindL (t : List Nd) (i : Nat) : List Int := ((pathT t i).drop 1).map (tk t)
theorem way_link {t : List Nd} {ch : List Int} (hT : isT t) (i : Nat) (h : i + 1 < (way t ch).length) : kid t (gv (way t ch) i) (chv ch (gv (way t ch) i)) = some (gv (way t ch) (i + 1)) := by
  have hw := way_next (ch := ch) hT (gv (way t ch) i) (gv (way t ch) (i + 1)) t.length 0 ((way t ch).take i) (by omega) hT.1
  have e1 : (way t ch).take i ++ [gv (way t ch) i] = (way t ch).take (i + 1) := by
    rw [← gv_get _ i (by omega), List.take_succ_eq_append_getElem (by omega)]
  have e2 : (way t ch).take (i + 1) ++ [gv (way t ch) (i + 1)] = (way t ch).take (i + 1 + 1) := by
    rw [← gv_get _ (i + 1) h, List.take_succ_eq_append_getElem h]
  rw [e1, e2] at hw
  exact (hw.1 (List.take_prefix _ _)).2
theorem way_last {t : List Nd} {ch : List Int} (hT : isT t) : kid t (lastW (way t ch)) (chv ch (lastW (way t ch))) = none := by
  have hp := (way_len (ch := ch) hT).1
  cases hk : kid t (lastW (way t ch)) (chv ch (lastW (way t ch))) with
  | none => rfl
  | some k =>
    have hw := way_next (ch := ch) hT (lastW (way t ch)) k t.length 0 ((way t ch).take ((way t ch).length - 1)) (by omega) hT.1
    have e1 : (way t ch).take ((way t ch).length - 1) ++ [lastW (way t ch)] = way t ch := by
      rw [lastW_gv, ← gv_get _ _ (by omega : (way t ch).length - 1 < (way t ch).length), ← List.take_succ_eq_append_getElem (by omega), List.take_of_length_le (by omega)]
    rw [e1] at hw
    have := (hw.2 ⟨List.prefix_refl _, hk⟩).length_le
    have e3 : wayT t ch t.length 0 = way t ch := rfl
    rw [e3] at this
    simp at this
    omega
theorem way_zero {t : List Nd} {ch : List Int} : gv (way t ch) 0 = 0 := by
  obtain ⟨l, hl⟩ := wayT_head t ch t.length 0
  unfold way
  rw [hl]
  rfl
/-- the path of a node of the way is the way's beginning -/
theorem way_path {t : List Nd} {ch : List Int} (hT : isT t) : ∀ i, i < (way t ch).length → pathT t (gv (way t ch) i) = (way t ch).take (i + 1) := by
  intro i
  induction i with
  | zero =>
    intro h
    rw [way_zero, pathT_zero, List.take_succ_eq_append_getElem h, gv_get _ 0 h, way_zero]
    rfl
  | succ i ih =>
    intro h
    have hk := way_link (ch := ch) hT i h
    obtain ⟨h1, h2⟩ := kid_above hT hk
    have hp := (kid_some.1 hk).2.1.1
    rw [(pathT_step hT h2 (by omega)).1, hp, Int.toNat_natCast, ih (by omega), List.take_succ_eq_append_getElem h, gv_get _ _ h]
/-- what Take has before it is cut: at each place what is chosen there -/
theorem full_at {t : List Nd} {ch : List Int} (hT : isT t) (i : Nat) (h : i < (way t ch).length) : wv (takeFull t (nats (way t ch)) (chv ch (lastW (way t ch)))) i = chv ch (gv (way t ch) i) := by
  have hl : (wayTk t (nats (way t ch))).length = (way t ch).length - 1 := by simp [wayTk, nats]
  unfold wv takeFull
  rcases Nat.lt_or_ge i ((way t ch).length - 1) with h1 | h1
  · have e : (wayTk t (nats (way t ch)) ++ [chv ch (lastW (way t ch))]).getD i 0 = (wayTk t (nats (way t ch)))[i]'(by omega) := by
      rw [List.getD_eq_getElem?_getD, List.getElem?_append_left (by omega), List.getElem?_eq_getElem (by omega)]
      rfl
    rw [e, wayTk_get t _ i (by rw [nats_length]; omega), wv_nats, Int.toNat_natCast]
    exact (kid_some.1 (way_link (ch := ch) hT i (by omega))).2.1.2
  · obtain rfl : i = (way t ch).length - 1 := by omega
    rw [List.getD_eq_getElem?_getD, List.getElem?_append_right (by omega), hl, Nat.sub_self, lastW_gv]
    rfl
/-- the tokens behind the root of a node of the way -/
theorem full_behind {t : List Nd} {ch : List Int} (hT : isT t) (i : Nat) (h : i < (way t ch).length) : behindL t (gv (way t ch) i) = (takeFull t (nats (way t ch)) (chv ch (lastW (way t ch)))).take i := by
  unfold behindL takeFull wayTk nats
  rw [way_path hT i h]
  cases hw : way t ch with
  | nil => rw [hw] at h; simp at h
  | cons a l =>
    rw [hw] at h
    simp only [List.take_succ_cons, List.drop_succ_cons, List.drop_zero, List.map_cons, List.map_map]
    simp only [List.length_cons] at h
    rw [List.take_append_of_le_length (by simp; omega), List.map_take]
    rfl
/-- all that the replay needs: L the tokens that are taken, m the guesses that are right -/
structure Replay (t : List Nd) (ch K : List Int) (F : List Int → Int) (most : Int) (L : List Int) (O : Bool) (m : Nat) : Prop where
  pos : 0 < L.length
  le : L.length ≤ m + 1
  small : L.length ≤ 32
  mlt : m < (way t ch).length
  len : (L.length : Int) = min (((min L.length m : Nat) : Int) + 1) most
  says : ∀ i, i < L.length → wv L i = F (K ++ L.take i)
  goes : ∀ i, i + 1 < L.length → wv L i ≠ 0
  more : ∀ i, i < L.length → i < m → kid t (gv (way t ch) i) (wv L i) = some (gv (way t ch) (i + 1))
  ends : ∀ i, i < L.length → i = m → kid t (gv (way t ch) i) (wv L i) = none
  over : O = (decide (wv L (L.length - 1) = 0) || decide ((L.length : Int) = most))
theorem replay {t : List Nd} {ch K : List Int} {F : List Int → Int} {most : Int} (hT : isT t) (hl : ch.length = t.length) (hm : 1 ≤ most) (hF : ∀ i, i < t.length → chv ch i = F (K ++ behindL t i)) :
    ∃ m, Replay t ch K F most (takeL t (walkL t ch) (walkN t ch) most) (takeO t (walkL t ch) (walkN t ch) most) m := by
  have hok : okW t ch := ⟨hT, hl⟩
  have hWL : walkL t ch = nats (way t ch) := if_pos hok
  have hWN : walkN t ch = chv ch (lastW (way t ch)) := if_pos hok
  have hokK : okK t (nats (way t ch)) most := ⟨hT, way_isWay hT, hm⟩
  obtain ⟨hp, hlt⟩ := way_len (ch := ch) hT
  rw [hWL, hWN]
  unfold takeL takeO cutL cutO
  rw [if_pos hokK, if_pos hokK]
  have hfl : (takeFull t (nats (way t ch)) (chv ch (lastW (way t ch)))).length = (way t ch).length := by rw [takeFull_length (by rw [nats_length]; exact hp), nats_length]
  have hat : ∀ i, i < (way t ch).length → wv (takeFull t (nats (way t ch)) (chv ch (lastW (way t ch)))) i = chv ch (gv (way t ch) i) := full_at hT
  have hbe : ∀ i, i < (way t ch).length → behindL t (gv (way t ch) i) = (takeFull t (nats (way t ch)) (chv ch (lastW (way t ch)))).take i := full_behind hT
  have hlink : ∀ i, i + 1 < (way t ch).length → kid t (gv (way t ch) i) (chv ch (gv (way t ch) i)) = some (gv (way t ch) (i + 1)) := fun i h => way_link hT i h
  have hlast := way_last (ch := ch) hT
  rw [lastW_gv] at hlast
  have hgl : ∀ i, i < (way t ch).length → gv (way t ch) i < t.length := fun i h => by
    rw [← gv_get _ i h]
    exact hlt _ (List.getElem_mem h)
  have hne : ∀ i, i + 1 < (way t ch).length → chv ch (gv (way t ch) i) ≠ 0 := fun i h h0 => by
    obtain ⟨h1, h2, _⟩ := kid_some.1 (hlink i h)
    have h3 := (kid_above hT (hlink i h)).1
    have := (hT.2.2.2.2 _ h1 (by omega)).2.2.1
    rw [h2.2, h0] at this
    omega
  have h32 : (way t ch).length ≤ 32 := by
    have h1 := way_short hT (way_isWay (ch := ch) hT)
    rw [nats_length] at h1
    have := hT.2.1
    omega
  generalize takeFull t (nats (way t ch)) (chv ch (lastW (way t ch))) = full at *
  generalize hW : (way t ch).length = M at *
  refine ⟨M - 1, ?_⟩
  have base : ∀ q, 0 < q → q ≤ M → (∀ i, i + 1 < q → wv full i ≠ 0) → ((q : Int) = min (((min q (M - 1) : Nat) : Int) + 1) most) → ∀ O, O = (decide (wv full (q - 1) = 0) || decide ((q : Int) = most)) → Replay t ch K F most (full.take q) O (M - 1) := by
    intro q h0 hq hz hmin O hO
    have hlq : (full.take q).length = q := by rw [List.length_take]; omega
    have hw : ∀ i, i < q → wv (full.take q) i = wv full i := fun i hi => by
      unfold wv
      rw [List.getD_eq_getElem?_getD, List.getElem?_take_of_lt hi, ← List.getD_eq_getElem?_getD]
    refine ⟨by omega, by omega, by omega, by omega, by rw [hlq]; exact hmin, fun i hi => ?_, fun i hi => ?_, fun i hi h1 => ?_, fun i hi h1 => ?_, ?_⟩
    · rw [hlq] at hi
      rw [hw i hi, hat i (by omega), hF _ (hgl i (by omega)), hbe i (by omega), List.take_take, Nat.min_eq_left (by omega)]
    · rw [hlq] at hi
      rw [hw i (by omega)]
      exact hz i hi
    · rw [hlq] at hi
      rw [hw i hi, hat i (by omega)]
      exact hlink i (by omega)
    · rw [hlq] at hi
      rw [hw i hi, hat i (by omega), h1]
      exact hlast
    · rw [hlq, hw _ (by omega)]
      exact hO
  cases hc : cutN full most with
  | none =>
    have hno : ∀ i, i < M → ¬ stopAt full most i := fun i hi hs => by
      unfold cutN at hc
      rw [List.find?_eq_none] at hc
      exact hc i (List.mem_range.2 (by omega)) (by simpa using hs)
    have hmost : (M : Int) < most := by
      rcases Int.lt_or_le (M : Int) most with h | h
      · exact h
      · exfalso
        refine hno (most.toNat - 1) (by omega) (.inr (by omega))
    have e : full = full.take M := by rw [List.take_of_length_le (by omega)]
    show Replay t ch K F most full false (M - 1)
    rw [e]
    refine base M (by omega) (Nat.le_refl _) (fun i hi h0 => hno i (by omega) (.inl h0)) (by omega) false ?_
    have h1 : ¬ wv full (M - 1) = 0 := fun h0 => hno (M - 1) (by omega) (.inl h0)
    rw [decide_eq_false h1, decide_eq_false (by omega)]
    rfl
  | some i =>
    unfold cutN at hc
    rw [List.find?_range_eq_some] at hc
    obtain ⟨h1, h2, h3⟩ := hc
    have h1 : stopAt full most i := by simpa using h1
    have h2 : i < M := by simpa [hfl] using h2
    have h3 : ∀ j, j < i → ¬ stopAt full most j := fun j hj => by simpa using h3 j hj
    have hlow : (i : Int) + 1 ≤ most := by
      rcases Int.lt_or_le most ((i : Int) + 1) with h | h
      · exfalso
        exact h3 (most.toNat - 1) (by omega) (.inr (by omega))
      · exact h
    refine base (i + 1) (by omega) (by omega) (fun j hj h0 => h3 j (by omega) (.inl h0)) ?_ true ?_
    · rcases h1 with h1 | h1
      · have : ¬ i + 1 < M := fun h => by
          rw [hat i h2] at h1
          exact hne i h h1
        omega
      · omega
    · rw [Nat.add_sub_cancel]
      rcases h1 with h1 | h1
      · rw [decide_eq_true h1]; rfl
      · rw [decide_eq_true (show ((i + 1 : Nat) : Int) = most by omega), Bool.or_true]
end Go.Proofs.YtlcgkdhcdldlfaaDoor
