import Derived.Test.YtlocogccjlecjaaDoorCmpP
/- From every state a text leads to one that accepts; rounds that mark the states find all of them (plain). -/
namespace Go.Proofs.YtlocogccjlecjaaDoor
open Go.RowKit
inductive Live (q : List St) (ls : List (List Int)) : Nat → Prop
  | here {i : Nat} {s : St} (h : q[i]? = some s) (he : s.2 = true) : Live q ls i
  | step {i j b : Nat} {t : List Int} (hb : b < 256) (h : ls[i]? = some t) (h2 : t[b]? = some ((j : Nat) : Int)) (hj : j < q.length) (h3 : Live q ls j) : Live q ls i
/-- the places, as read leaves them -/
structure PlsOk (rs fs : List Nat) (l : Nat) : Prop where
  len : fs.length = rs.length
  ne : ∀ r ∈ rs, r ≠ 0 ∧ r < 2 ^ 256
  last : ∀ j, l.testBit j = true → j < rs.length
  leads : ∀ p, p < rs.length → ∃ z, l.testBit z = true ∧ Leads fs p z
theorem Fol.lt {fs : List Nat} {p r : Nat} (h : Fol fs p r) : p < fs.length := by
  unfold Fol at h
  rcases Nat.lt_or_ge p fs.length with hp | hp
  · exact hp
  · rw [List.getD_eq_getElem?_getD, List.getElem?_eq_none hp] at h
    simp at h
theorem a_byte {N : Nat} (h : N ≠ 0) (h2 : N < 2 ^ 256) : ∃ b, b < 256 ∧ N.testBit b = true := by
  obtain ⟨b, hb⟩ := some_bit h
  refine ⟨b, ?_, hb⟩
  rcases Nat.lt_or_ge b 256 with h3 | h3
  · exact h3
  · rw [Nat.testBit_lt_two_pow (Nat.lt_of_lt_of_le h2 (Nat.pow_le_pow_right (by omega) h3))] at hb
    cases hb
section
variable {rs fs : List Nat} {l n : Nat} {s0 : St} {q : List St} {ls : List (List Int)}
theorem idx_get {s : St} (h : s ∈ q) : q[q.idxOf s]? = some s := by
  have := List.idxOf_lt_length_of_mem h
  rw [List.getElem?_eq_getElem this]
  simp
theorem place_step (P : PlsOk rs fs l) (I : CmpI rs fs l s0 n q ls) (hn : q.length = n) {i p : Nat} {s : St} (hi : q[i]? = some s) (hp : p < rs.length) (hs : s.1.testBit p = true) :
    ∃ b t j u, b < 256 ∧ ls[i]? = some t ∧ t[b]? = some ((j : Nat) : Int) ∧ q[j]? = some u ∧ (l.testBit p = true → u.2 = true) ∧ ∀ r, Fol fs p r → u.1.testBit r = true := by
  have hr : (rs.getD p 0) ∈ rs := by
    rw [List.getD_eq_getElem?_getD, List.getElem?_eq_getElem hp]; exact List.getElem_mem hp
  obtain ⟨b, hb, hbit⟩ := a_byte (P.ne _ hr).1 (P.ne _ hr).2
  have hit1 : hit rs s.1 b p = true := by unfold hit; rw [hs, hbit]; rfl
  have hg : gatE rs (fun _ => true) s.1 b rs.length = true := gatE_iff.2 ⟨p, hp, hit1, rfl⟩
  have hnx : nxt rs fs l s.1 b = some (gatN rs fs s.1 b rs.length, gatE rs l.testBit s.1 b rs.length) := by unfold nxt; rw [if_pos hg]
  have hil : i < ls.length := by rw [I.len, ← hn]; exact lt_of_some hi
  obtain ⟨h1, s', h2, h3⟩ := I.rows i ls[i] (List.getElem?_eq_getElem hil)
  rw [hi] at h2
  cases h2
  rcases h3 b (by rw [h1]; exact hb) with ⟨h4, _⟩ | ⟨u, h4, h5, h6⟩
  · rw [hnx] at h4; cases h4
  · rw [hnx] at h4
    refine ⟨b, _, _, u, hb, List.getElem?_eq_getElem hil, h6, idx_get h5, fun hl => ?_, fun r hf => ?_⟩
    · cases h4; exact gatE_iff.2 ⟨p, hp, hit1, hl⟩
    · cases h4; exact gatN_bit.2 ⟨p, hp, hit1, hf⟩
theorem live_place (P : PlsOk rs fs l) (I : CmpI rs fs l s0 n q ls) (hn : q.length = n) {p z : Nat} (h : Leads fs p z) (hz : l.testBit z = true) : ∀ i s, q[i]? = some s → s.1.testBit p = true → Live q ls i := by
  induction h with
  | refl p =>
    intro i s hi hs
    obtain ⟨b, t, j, u, h1, h2, h3, h4, h5, _⟩ := place_step P I hn hi (P.last _ hz) hs
    exact .step h1 h2 h3 (lt_of_some h4) (.here h4 (h5 hz))
  | step hf _ ih =>
    intro i s hi hs
    obtain ⟨b, t, j, u, h1, h2, h3, h4, _, h5⟩ := place_step P I hn hi (by rw [← P.len]; exact hf.lt) hs
    exact .step h1 h2 h3 (lt_of_some h4) (ih hz j u h4 (h5 _ hf))
/-- every state -/
theorem live_all (P : PlsOk rs fs l) (h0 : s0.2 = true ∨ ∃ p, p < rs.length ∧ s0.1.testBit p = true) (hfs : ∀ p r, Fol fs p r → r < rs.length) (h : cmpC rs fs l s0 n = some (q, ls)) (hl : ls.length = n) (hn : q.length = n) : ∀ i, i < n → Live q ls i := by
  have I := cmpI h hl
  have hJ := cmpC_all (J := fun s => s.2 = true ∨ ∃ p, p < rs.length ∧ s.1.testBit p = true) h0 (fun s b t hs ht => by
    unfold nxt at ht
    split at ht
    · rename_i hg
      cases ht
      obtain ⟨p, hp, hh, _⟩ := gatE_iff.1 hg
      by_cases hlp : l.testBit p = true
      · exact .inl (gatE_iff.2 ⟨p, hp, hh, hlp⟩)
      · right
        obtain ⟨z, hz, hlz⟩ := P.leads p hp
        cases hlz with
        | refl _ => exact absurd hz hlp
        | step hf _ => exact ⟨_, hfs _ _ hf, gatN_bit.2 ⟨p, hp, hh, hf⟩⟩
    · cases ht) h
  intro i hi
  have hiq : i < q.length := by omega
  rcases hJ q[i] (List.getElem_mem hiq) with he | ⟨p, hp, hb⟩
  · exact .here (List.getElem?_eq_getElem hiq) he
  · obtain ⟨z, hz, hlz⟩ := P.leads p hp
    exact live_place P I hn hlz hz i _ (List.getElem?_eq_getElem hiq) hb
end
/-- marks: a round -/
structure Rnd (ls : List (List Int)) (a b : List Bool) : Prop where
  len : b.length = a.length
  up : ∀ i : Nat, a[i]? = some true → b[i]? = some true
  edge : ∀ (x y c : Nat) (t : List Int), ls[x]? = some t → c < 256 → t[c]? = some ((y : Nat) : Int) → a[y]? = some true → x < a.length → b[x]? = some true
theorem live_edge {q : List St} {ls : List (List Int)} {lv : List Bool} (hacc : ∀ (i : Nat) (s : St), q[i]? = some s → s.2 = true → lv[i]? = some true) (hl : lv.length = q.length) {i : Nat} (h : Live q ls i) : i < q.length → lv[i]? = some true ∨
    ∃ (x y c : Nat) (t : List Int), lv[x]? = some false ∧ ls[x]? = some t ∧ c < 256 ∧ t[c]? = some ((y : Nat) : Int) ∧ lv[y]? = some true := by
  induction h with
  | here h he => intro _; exact .inl (hacc _ _ h he)
  | @step i j b t hb h h2 hj h3 ih =>
    intro hi
    rcases ih hj with h4 | h4
    · have hil : i < lv.length := by omega
      cases hv : lv[i] with
      | true => exact .inl (by rw [List.getElem?_eq_getElem hil, hv])
      | false => exact .inr ⟨i, j, b, t, by rw [List.getElem?_eq_getElem hil, hv], h, hb, h2, h4⟩
    · exact .inr h4
theorem count_lt : ∀ (a b : List Bool), b.length = a.length → (∀ i : Nat, a[i]? = some true → b[i]? = some true) → a.count true ≤ b.count true ∧ ((∃ i : Nat, a[i]? = some false ∧ b[i]? = some true) → a.count true < b.count true)
  | [], b, _, _ => ⟨by simp, fun ⟨i, h, _⟩ => by simp at h⟩
  | x :: a, [], h, _ => by simp at h
  | x :: a, y :: b, h, hu => by
    have ih := count_lt a b (by simpa using h) (fun i hi => by simpa using hu (i + 1) (by simpa using hi))
    have h0 := hu 0
    simp at h0
    refine ⟨?_, ?_⟩
    · cases x <;> cases y <;> simp_all <;> omega
    · rintro ⟨i, h1, h2⟩
      cases i with
      | zero => simp at h1 h2; subst h1 h2; simp; omega
      | succ i =>
        have := ih.2 ⟨i, by simpa using h1, by simpa using h2⟩
        cases x <;> cases y <;> simp_all <;> omega
/-- behind r rounds -/
def Marked (r : Nat) (lv : List Bool) : Prop := r ≤ lv.count true ∨ ∀ i, i < lv.length → lv[i]? = some true
theorem marked_round {q : List St} {ls : List (List Int)} {a b : List Bool} {r : Nat} (hlive : ∀ i, i < q.length → Live q ls i) (hacc : ∀ (i : Nat) (s : St), q[i]? = some s → s.2 = true → a[i]? = some true) (hl : a.length = q.length) (hlen : ls.length = q.length) (hr : Rnd ls a b) (h : Marked r a) : Marked (r + 1) b := by
  have hall : (∀ i, i < a.length → a[i]? = some true) → ∀ i, i < b.length → b[i]? = some true := fun h i hi => hr.up i (h i (by rw [← hr.len]; exact hi))
  rcases h with h | h
  · by_cases h1 : ∀ i, i < a.length → a[i]? = some true
    · exact .inr (hall h1)
    · left
      obtain ⟨i, hi, hne⟩ : ∃ i, i < a.length ∧ a[i]? ≠ some true := by
        refine Classical.byContradiction (fun hno => h1 (fun i hi => Classical.byContradiction (fun hn => hno ⟨i, hi, hn⟩)))
      have h2 := live_edge hacc hl (hlive i (by omega)) (by omega)
      rcases h2 with h2 | ⟨x, y, c, t, h3, h4, h5, h6, h7⟩
      · exact absurd h2 hne
      · have h8 := (count_lt a b hr.len hr.up).2 ⟨x, h3, hr.edge x y c t h4 h5 h6 h7 (lt_of_some h3)⟩
        omega
  · exact .inr (hall h)
theorem marked_all {lv : List Bool} {n : Nat} (hl : lv.length = n) (h : Marked n lv) : ∀ i, i < n → lv[i]? = some true := by
  rcases h with h | h
  · intro i hi
    have h1 : lv.count true = lv.length := Nat.le_antisymm List.count_le_length (by omega)
    have h2 := List.count_eq_length.1 h1
    have hi2 : i < lv.length := by omega
    rw [List.getElem?_eq_getElem hi2, ← h2 _ (List.getElem_mem hi2)]
  · intro i hi; exact h i (by omega)
end Go.Proofs.YtlocogccjlecjaaDoor
