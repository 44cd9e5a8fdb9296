import Derived.Test.YtlocogccjlecjaaDoorQuoP
/- The automaton of a text written as escapes: a chain (plain). -/
namespace Go.Proofs.YtlocogccjlecjaaDoor
open Go.RowKit
/-- what follows each of k places -/
def fsQ (k : Nat) : List Nat := (List.range k).map fun j => if j + 1 < k then 2 ^ (j + 1) else 0
theorem fsQ_len (k : Nat) : (fsQ k).length = k := by simp [fsQ]
theorem fsQ_get {k j : Nat} (h : j < k) : (fsQ k)[j]? = some (if j + 1 < k then 2 ^ (j + 1) else 0) := by
  unfold fsQ
  rw [List.getElem?_map, List.getElem?_range h]
  rfl
def rsQ (l : List Nat) : List Nat := l.map fun b => spanN b b
theorem link_chain (k : Nat) : linkF (fsQ k ++ [0]) (if k = 0 then 0 else 2 ^ (k - 1)) (2 ^ k) = fsQ (k + 1) := by
  refine List.ext_getElem? (fun j => ?_)
  unfold linkF
  rw [List.getElem?_mapIdx]
  rcases Nat.lt_or_ge j (k + 1) with hj | hj
  · rw [fsQ_get hj]
    rcases Nat.lt_or_ge j k with hk | hk
    · rw [List.getElem?_append_left (by rw [fsQ_len]; exact hk), fsQ_get hk, if_neg (by omega), Nat.testBit_two_pow]
      simp only [Option.map_some, decide_eq_true_eq]
      by_cases e : k - 1 = j
      · rw [if_pos e, if_neg (by omega), if_pos (by omega), Nat.zero_or]
        congr 2
        omega
      · rw [if_neg e, if_pos (by omega), if_pos (by omega)]
    · obtain rfl : j = k := by omega
      rw [List.getElem?_append_right (by rw [fsQ_len]; exact Nat.le_refl _), fsQ_len, Nat.sub_self]
      have h1 : ((if j = 0 then 0 else 2 ^ (j - 1)) : Nat).testBit j = false := by
        split
        · simp
        · rw [Nat.testBit_two_pow]; simp; omega
      simp [h1]
  · rw [List.getElem?_eq_none (by rw [List.length_append, fsQ_len]; exact hj), List.getElem?_eq_none (by rw [fsQ_len]; exact hj)]
    rfl
theorem seqL_snoc (acc : Rx) (l : List Nat) (b : Nat) : seqL acc (l ++ [b]) = .seq (seqL acc l) (.leaf (spanN b b)) := by simp [seqL]
theorem rdQ : ∀ (n : Nat) (l : List Nat), l.length = n → rdF (seqL .eps l) [] [] = (⟨decide (n = 0), if n = 0 then 0 else 1, if n = 0 then 0 else 2 ^ (n - 1)⟩, rsQ l, fsQ n)
  | 0, l, h => by rw [List.eq_nil_of_length_eq_zero h]; rfl
  | n + 1, l, h => by
    rcases List.eq_nil_or_concat l with rfl | ⟨l', b, rfl⟩
    · simp at h
    · rw [List.concat_eq_append] at h ⊢
      have hl : l'.length = n := by simpa using h
      rw [seqL_snoc]
      simp only [rdF, rdQ n l' hl]
      have hr : (rsQ l').length = n := by simp [rsQ, hl]
      rw [hr, Nat.one_shiftLeft, link_chain]
      have e2 : rsQ l' ++ [spanN b b] = rsQ (l' ++ [b]) := by simp [rsQ]
      rw [e2]
      by_cases h0 : n = 0
      · subst h0; rfl
      · simp [h0]
theorem quo_rd (l : List Nat) : rdF (quoT l) [] [] = (⟨decide (l.length = 0), if l.length = 0 then 0 else 1, if l.length = 0 then 0 else 2 ^ (l.length - 1)⟩, rsQ l, fsQ l.length) := by
  unfold quoT
  simp only [rdF, rdQ _ l rfl]
  simp
/-- the states: place k, or the end -/
def sQ (n k : Nat) : St := (if k < n then 2 ^ k else 0, k == n)
def qQ (n k : Nat) : List St := (List.range (k + 1)).map (sQ n)
theorem qQ_len (n k : Nat) : (qQ n k).length = k + 1 := by simp [qQ]
theorem qQ_get {n k j : Nat} (h : j ≤ k) : (qQ n k)[j]? = some (sQ n j) := by
  unfold qQ
  rw [List.getElem?_map, List.getElem?_range (by omega)]
  rfl
theorem qQ_succ (n k : Nat) : qQ n k ++ [sQ n (k + 1)] = qQ n (k + 1) := by
  unfold qQ
  rw [List.range_succ (n := k + 1), List.map_append]
  rfl
theorem sQ_inj {n i j : Nat} (hi : i ≤ n) (hj : j ≤ n) (h : sQ n i = sQ n j) : i = j := by
  unfold sQ at h
  have h2 := congrArg Prod.fst h
  simp only at h2
  have hp := fun k : Nat => Nat.two_pow_pos k
  split at h2 <;> split at h2
  · exact (Nat.pow_right_inj (by decide)).1 h2
  · have := hp i; omega
  · have := hp j; omega
  · omega
theorem sQ_new {n k : Nat} (hk : k + 1 ≤ n) : sQ n (k + 1) ∉ qQ n k := fun h => by
  obtain ⟨j, hj, e⟩ := List.mem_map.1 h
  have hj2 := List.mem_range.1 hj
  have := sQ_inj (by omega) hk e
  omega
def rowQ (l : List Nat) (k : Nat) : List Int := (List.range 256).map fun b => if l[k]? = some b then ((k + 1 : Nat) : Int) else -1
theorem rowQ_take {l : List Nat} {k b : Nat} (hb : b < 256) : (rowQ l k).take (b + 1) = (rowQ l k).take b ++ [if l[k]? = some b then ((k + 1 : Nat) : Int) else -1] := by
  refine takeSucc ?_
  unfold rowQ
  rw [List.getElem?_map, List.getElem?_range hb]
  rfl
theorem rsQ_bit {l : List Nat} {p b : Nat} (h : p < l.length) : ((rsQ l).getD p 0).testBit b = decide (l[p]? = some b) := by
  unfold rsQ
  rw [List.getD_eq_getElem?_getD, List.getElem?_map, List.getElem?_eq_getElem h]
  simp only [Option.map_some, Option.getD_some, spanN_bit, Option.some.injEq]
  rw [Bool.eq_iff_iff]
  simp only [Bool.and_eq_true, decide_eq_true_eq]
  omega
theorem hit_chain {l : List Nat} {k b p : Nat} (hk : k < l.length) : hit (rsQ l) (2 ^ k) b p = true ↔ p = k ∧ l[k]? = some b := by
  unfold hit
  rw [Nat.testBit_two_pow, Bool.and_eq_true, decide_eq_true_eq]
  constructor
  · rintro ⟨rfl, h⟩
    rw [rsQ_bit hk] at h
    exact ⟨rfl, of_decide_eq_true h⟩
  · rintro ⟨rfl, h⟩
    exact ⟨rfl, by rw [rsQ_bit hk, h]; simp⟩
def lastQ (n : Nat) : Nat := if n = 0 then 0 else 2 ^ (n - 1)
theorem nxt_chain {l : List Nat} {k b : Nat} (hk : k < l.length) : nxt (rsQ l) (fsQ l.length) (lastQ l.length) (2 ^ k) b = if l[k]? = some b then some (sQ l.length (k + 1)) else none := by
  have hlen : (rsQ l).length = l.length := by simp [rsQ]
  unfold nxt
  rw [hlen]
  by_cases h : l[k]? = some b
  · rw [if_pos (gatE_iff.2 ⟨k, hk, (hit_chain hk).2 ⟨rfl, h⟩, rfl⟩), if_pos h]
    congr 1
    unfold sQ
    refine Prod.ext ?_ ?_
    · refine Nat.eq_of_testBit_eq (fun j => ?_)
      rw [Bool.eq_iff_iff]
      simp only
      rw [gatN_bit]
      constructor
      · rintro ⟨p, _, h2, h3⟩
        obtain ⟨rfl, _⟩ := (hit_chain hk).1 h2
        rw [List.getD_eq_getElem?_getD, fsQ_get hk, Option.getD_some] at h3
        exact h3
      · intro h3
        exact ⟨k, hk, (hit_chain hk).2 ⟨rfl, h⟩, by rw [List.getD_eq_getElem?_getD, fsQ_get hk, Option.getD_some]; exact h3⟩
    · rw [Bool.eq_iff_iff]
      simp only
      rw [gatE_iff, beq_iff_eq]
      unfold lastQ
      rw [if_neg (by omega)]
      simp only [Nat.testBit_two_pow, decide_eq_true_eq]
      constructor
      · rintro ⟨p, _, h2, h3⟩
        obtain ⟨rfl, _⟩ := (hit_chain hk).1 h2
        omega
      · intro h3
        exact ⟨k, hk, (hit_chain hk).2 ⟨rfl, h⟩, by omega⟩
  · rw [if_neg h, if_neg]
    rw [gatE_iff]
    rintro ⟨p, _, h2, _⟩
    exact h ((hit_chain hk).1 h2).2
theorem nxt_end (rs fs : List Nat) (l b : Nat) : nxt rs fs l 0 b = none := by
  unfold nxt
  rw [gatE_zero]
  rfl
theorem row_chain {l : List Nat} {k : Nat} (hk : k < l.length) (h63 : k + 1 < 64) : ∀ b, b ≤ 256 → rowC (rsQ l) (fsQ l.length) (lastQ l.length) (2 ^ k) b (qQ l.length k) = some (if l.getD k 0 < b then qQ l.length (k + 1) else qQ l.length k, (rowQ l k).take b)
  | 0, _ => by rw [if_neg (by omega)]; rfl
  | b + 1, hb => by
    have hg : l[k]? = some (l.getD k 0) := by rw [List.getD_eq_getElem?_getD, List.getElem?_eq_getElem hk]; rfl
    simp only [rowC, row_chain hk h63 b (by omega), nxt_chain hk]
    rw [rowQ_take (by omega)]
    by_cases h : l[k]? = some b
    · have hb2 : l.getD k 0 = b := by rw [hg] at h; injection h
      simp only [if_pos h]
      rw [hb2, if_neg (Nat.lt_irrefl b), if_neg (sQ_new hk), if_neg (by rw [qQ_len]; omega), if_pos (Nat.lt_succ_self b), qQ_len, qQ_succ]
    · have hb2 : l.getD k 0 ≠ b := fun e => h (by rw [hg, e])
      simp only [if_neg h]
      by_cases h2 : l.getD k 0 < b
      · rw [if_pos h2, if_pos (by omega)]
      · rw [if_neg h2, if_neg (by omega)]
theorem row_full {l : List Nat} (hk : 63 < l.length) (hl : ∀ b ∈ l, b < 256) : rowC (rsQ l) (fsQ l.length) (lastQ l.length) (2 ^ 63) 256 (qQ l.length 63) = none := by
  have hg : l[63]? = some (l.getD 63 0) := by rw [List.getD_eq_getElem?_getD, List.getElem?_eq_getElem hk]; rfl
  have hlt := hl _ (List.mem_of_getElem? hg)
  have key : ∀ b, b ≤ l.getD 63 0 → rowC (rsQ l) (fsQ l.length) (lastQ l.length) (2 ^ 63) b (qQ l.length 63) = some (qQ l.length 63, (rowQ l 63).take b) := by
    intro b
    induction b with
    | zero => intro _; rfl
    | succ b ih =>
      intro hb
      have h : ¬ l[63]? = some b := fun e => by rw [hg] at e; injection e; omega
      simp only [rowC, ih (by omega), nxt_chain hk, if_neg h]
      rw [rowQ_take (by omega), if_neg h]
  refine rowC_none (b := l.getD 63 0 + 1) (by omega) ?_
  simp only [rowC, key _ (Nat.le_refl _), nxt_chain hk, if_pos hg]
  rw [if_neg (sQ_new hk), if_pos (by rw [qQ_len])]
theorem row_end {l : List Nat} {q : List St} : ∀ b, b ≤ 256 → rowC (rsQ l) (fsQ l.length) (lastQ l.length) 0 b q = some (q, (rowQ l l.length).take b)
  | 0, _ => rfl
  | b + 1, hb => by
    have h : ¬ l[l.length]? = some b := by rw [List.getElem?_eq_none (Nat.le_refl _)]; simp
    simp only [rowC, row_end b (by omega), nxt_end]
    rw [rowQ_take (by omega), if_neg h]
theorem rowQ_len (l : List Nat) (k : Nat) : (rowQ l k).length = 256 := by simp [rowQ]
theorem cmp_chain {l : List Nat} (hl : ∀ b ∈ l, b < 256) : ∀ k, k ≤ l.length → k ≤ 63 → cmpC (rsQ l) (fsQ l.length) (lastQ l.length) (sQ l.length 0) k = some (qQ l.length k, (List.range k).map (rowQ l))
  | 0, _, _ => rfl
  | k + 1, hk, h63 => by
    have hg : l[k]? = some (l.getD k 0) := by rw [List.getD_eq_getElem?_getD, List.getElem?_eq_getElem hk]; rfl
    have hlt := hl _ (List.mem_of_getElem? hg)
    have hs : (sQ l.length k).1 = 2 ^ k := by unfold sQ; simp only; rw [if_pos (show k < l.length from hk)]
    simp only [cmpC, cmp_chain hl k (by omega) (by omega), qQ_get (Nat.le_refl k), hs, row_chain hk (by omega) 256 (Nat.le_refl _)]
    rw [if_pos hlt, List.take_of_length_le (by rw [rowQ_len]; exact Nat.le_refl _), List.range_succ, List.map_append]
    rfl
def lsQ (l : List Nat) : List (List Int) := (List.range (l.length + 1)).map (rowQ l)
theorem lsQ_len (l : List Nat) : (lsQ l).length = l.length + 1 := by simp [lsQ]
theorem quo_s0 (l : List Nat) : ((rdF (quoT l) [] []).1.f, (rdF (quoT l) [] []).1.e) = sQ l.length 0 := by
  rw [quo_rd]
  unfold sQ
  by_cases h : l.length = 0
  · rw [h]; rfl
  · refine Prod.ext ?_ ?_
    · show (if l.length = 0 then 0 else 1) = if 0 < l.length then 2 ^ 0 else 0
      rw [if_neg h, if_pos (Nat.pos_of_ne_zero h), Nat.pow_zero]
    · show decide (l.length = 0) = ((0 : Nat) == l.length)
      rw [decide_eq_false h]
      exact (beq_eq_false_iff_ne.2 (Ne.symm h)).symm
/-- its automaton, where it has one -/
theorem quo_cmp {l : List Nat} (hl : ∀ b ∈ l, b < 256) (h63 : l.length ≤ 63) : cmpT (quoT l) (l.length + 1) = some (qQ l.length l.length, lsQ l) := by
  unfold cmpT
  rw [quo_s0, quo_rd]
  have hs : (sQ l.length l.length).1 = 0 := by unfold sQ; simp
  have h := cmp_chain hl l.length (Nat.le_refl _) h63
  unfold lastQ at h
  have he := row_end (l := l) (q := qQ l.length l.length) 256 (Nat.le_refl _)
  unfold lastQ at he
  simp only [cmpC, h, qQ_get (Nat.le_refl _), hs, he]
  rw [List.take_of_length_le (by rw [rowQ_len]; exact Nat.le_refl _)]
  unfold lsQ
  rw [List.range_succ, List.map_append]
  rfl
theorem cmpC_full {rs fs : List Nat} {l n : Nat} {s0 s : St} {q : List St} {ls : List (List Int)} (h : cmpC rs fs l s0 n = some (q, ls)) (hq : q[n]? = some s) (hr : rowC rs fs l s.1 256 q = none) : cmpC rs fs l s0 (n + 1) = none := by
  simp only [cmpC, h, hq, hr]
/-- too many states -/
theorem quo_many {l : List Nat} (hl : ∀ b ∈ l, b < 256) (h64 : 64 ≤ l.length) : cmpT (quoT l) 64 = none := by
  unfold cmpT
  rw [quo_s0, quo_rd]
  have hs : (sQ l.length 63).1 = 2 ^ 63 := by unfold sQ; simp only; rw [if_pos (by omega)]
  have h := cmp_chain hl 63 (by omega) (Nat.le_refl _)
  have he := row_full (by omega) hl
  unfold lastQ at h he
  exact cmpC_full h (qQ_get (Nat.le_refl _)) (by rw [hs]; exact he)
theorem lsQ_at {l : List Nat} {k b : Nat} (hk : k ≤ l.length) (hb : b < 256) : ((lsQ l).getD k []).getD b (-1) = if l[k]? = some b then ((k + 1 : Nat) : Int) else -1 := by
  have h1 : (lsQ l)[k]? = some (rowQ l k) := by
    unfold lsQ
    rw [List.getElem?_map, List.getElem?_range (by omega)]
    rfl
  have h2 : (rowQ l k)[b]? = some (if l[k]? = some b then ((k + 1 : Nat) : Int) else -1) := by
    unfold rowQ
    rw [List.getElem?_map, List.getElem?_range hb]
    rfl
  rw [List.getD_eq_getElem?_getD, List.getD_eq_getElem?_getD, h1, Option.getD_some, h2, Option.getD_some]
theorem quo_go {l : List Nat} : ∀ (r : List Nat) (k : Nat), k ≤ l.length → (∀ b ∈ r, b < 256) → (match goF (lsQ l) k r with | none => false | some s => ((qQ l.length l.length).getD s (0, false)).2) = decide (r = l.drop k)
  | [], k, hk, _ => by
    simp only [goF]
    rw [List.getD_eq_getElem?_getD, qQ_get hk, Option.getD_some]
    unfold sQ
    rw [Bool.eq_iff_iff]
    simp only [beq_iff_eq, decide_eq_true_eq]
    constructor
    · rintro rfl; rw [List.drop_length]
    · intro h
      have := congrArg List.length h
      rw [List.length_drop] at this
      simp at this
      omega
  | b :: r, k, hk, hb => by
    have hb0 := hb b (by simp)
    simp only [goF, lsQ_at hk hb0]
    by_cases h : l[k]? = some b
    · have hk2 := lt_of_some h
      rw [if_pos h, if_neg (by omega), Int.toNat_natCast, quo_go r (k + 1) hk2 (fun x hx => hb x (by simp [hx])), List.drop_eq_getElem_cons hk2]
      rw [List.getElem?_eq_getElem hk2] at h
      injection h with h
      rw [h]
      simp
    · rw [if_neg h, if_pos (by decide)]
      have h2 : ¬ (b :: r = l.drop k) := fun e => h (by
        have h3 := congrArg (·[0]?) e
        simp only [List.getElem?_cons_zero, List.getElem?_drop, Nat.add_zero] at h3
        exact h3.symm)
      simp [h2]
theorem quo_match {l : List Nat} (r : List Nat) (hr : ∀ b ∈ r, b < 256) : matchF (lsQ l) (qQ l.length l.length) r = decide (r = l) := by
  have := quo_go (l := l) r 0 (Nat.zero_le _) hr
  rw [List.drop_zero] at this
  exact this
/-- Compile has no automaton -/
theorem Cmp.fixMany {s : ByteArray} {base : Nat} {w : World} {e : Ending} {t0 : Rx} {m : Nat} (h : Cmp s base w e) (hp : Pars s (some t0) 0) (hc : cmpT t0 m = none) : e = .returned (.tuple #[.pointer none, .int .i64 111, .int .i64 0]) := by
  cases h with
  | bad h1 => cases (Pars_det h1 hp).1
  | many h1 h2 h3 h4 => rfl
  | ok h1 hn h2 h3 h4 =>
    cases (Pars_det h1 hp).1
    rename_i d q ls
    unfold cmpT at hc h2
    rcases Nat.le_total m ls.length with h6 | h6
    · rw [cmpC_none hc h6] at h2; cases h2
    · rw [cmpC_stay h2 (by omega) h6] at hc; cases hc
theorem Cmp.fixLong {s : ByteArray} {base : Nat} {w : World} {e : Ending} (h : Cmp s base w e) (hs : 64 < s.size) : e = .returned (.tuple #[.pointer none, .int .i64 110, .int .i64 64]) := by
  cases h with
  | bad h1 => rw [(Pars_det h1 (.long hs)).2]; rfl
  | many h1 h2 h3 h4 => cases (Pars_det h1 (.long hs)).1
  | ok h1 hn h2 h3 h4 => cases (Pars_det h1 (.long hs)).1
end Go.Proofs.YtlocogccjlecjaaDoor
