import Derived.Test.YtlcgkdhcdldlfaaWorks
namespace Go.Proofs.Ytlcgkdhcdldlfaa
open Go.RowKit

/-- a, a + 1, .. -/
def seqI (a k : Nat) : List Int := (List.range k).map fun i => ((a + i : Nat) : Int)
theorem seqI_length (a k : Nat) : (seqI a k).length = k := by simp [seqI]
theorem seqI_succ (a k : Nat) : seqI a (k + 1) = seqI a k ++ [((a + k : Nat) : Int)] := by simp [seqI, List.range_succ]
theorem seqI_get (a k i : Nat) (h : i < k) : wv (seqI a k) i = ((a + i : Nat) : Int) := by simp [wv, seqI, h]
theorem seqI_wf {a k : Nat} (h : a + k ≤ 9223372036854775807) : WfI (seqI a k) := by
  intro x hx
  simp only [seqI, List.mem_map, List.mem_range] at hx
  obtain ⟨i, hi, rfl⟩ := hx
  exact WalkArith.wf_i64 (by omega)
theorem tmod_in (x : Int) (n : Nat) (h : 0 < n) : -(n : Int) < x.tmod n ∧ x.tmod n < (n : Int) := ⟨Int.lt_tmod_of_pos x (by omega), Int.tmod_lt_of_pos x (by omega)⟩
/-- a number brought below n -/
def mdN (n : Nat) (x : Int) : Nat := (if x.tmod n < 0 then x.tmod n + n else x.tmod n).toNat
theorem mdN_lt {n : Nat} {x : Int} (h : 0 < n) : mdN n x < n := by
  have := tmod_in x n h
  unfold mdN
  split <;> omega
theorem mdN_neg {n : Nat} {x : Int} (h : 0 < n) (h' : x.tmod n < 0) : x.tmod n + (n : Int) = (mdN n x : Int) := by
  have := tmod_in x n h
  unfold mdN
  rw [if_pos h']
  omega
theorem mdN_pos {n : Nat} {x : Int} (h' : ¬ x.tmod n < 0) : x.tmod n = (mdN n x : Int) := by
  unfold mdN
  rw [if_neg h']
  omega
def wl (n : Nat) (way : List Int) (k : Nat) : List Int := (way.take k).map fun x => (mdN n x : Int)
theorem wl_length {n : Nat} {way : List Int} {k : Nat} (h : k ≤ way.length) : (wl n way k).length = k := by simp [wl]; omega
theorem wl_succ {n : Nat} {way : List Int} {k : Nat} (h : k < way.length) : wl n way (k + 1) = wl n way k ++ [(mdN n (wv way k) : Int)] := by
  simp only [wl]
  rw [List.take_succ_eq_append_getElem h, wv_get way k h]
  simp
theorem wl_get {n : Nat} {way : List Int} {k i : Nat} (h : k ≤ way.length) (hi : i < k) : wv (wl n way k) i = (mdN n (wv way i) : Int) := by
  have h1 : i < way.length := by omega
  simp [wv, wl, hi, h1]
section
variable {n a b k : Nat} {way : List Int}
theorem moves_no : planE (wl n way 0) (seqI a n) (seqI b 0) = 160 := (plan_no (fun h => absurd h.1 (by simp [wl]))).2
theorem moves_ok (hn : 0 < n) (hk : k ≤ way.length) (h0 : 0 < k) : okP (wl n way k) (seqI a n) (seqI b k) := by
  refine ⟨by rw [wl_length hk]; exact h0, by rw [wl_length hk, seqI_length]; exact Nat.le_refl _, fun i hi => ?_⟩
  rw [wl_length hk] at hi
  refine ⟨?_, ?_, ?_⟩
  · rw [wl_get hk hi]; omega
  · rw [wl_get hk hi, seqI_length]; have := mdN_lt (n := n) (x := wv way i) hn; omega
  · rw [seqI_get b k i hi, List.mem_take_iff_getElem]
    rintro ⟨j, hj, he⟩
    rw [wv_get _ j (by omega), seqI_get b k j (by omega)] at he
    omega
theorem mvAt_is (hn : 0 < n) (hk : k ≤ way.length) {i : Nat} (hi : i < k) : mvAt (wl n way k) (seqI a n) (seqI b k) i = if a + mdN n (wv way i) = b + i then [] else [(((a + mdN n (wv way i) : Nat) : Int), ((b + i : Nat) : Int))] := by
  unfold mvAt
  rw [wl_get hk hi, Int.toNat_natCast, seqI_get a n _ (mdN_lt hn), seqI_get b k i hi]
  by_cases h : a + mdN n (wv way i) = b + i
  · rw [if_pos h, if_pos (by rw [h])]
  · rw [if_neg h, if_neg (by omega)]
/-- what stands at a place behind the moves -/
def aft (ms : List (Int × Int)) (j : Nat) : Int := ms.foldl (fun v p => if p.2 = (j : Int) then 1000 + p.1 else v) (1000 + (j : Int))
theorem aft_nil (j : Nat) : aft [] j = 1000 + (j : Int) := rfl
theorem aft_snoc (ms : List (Int × Int)) (p : Int × Int) (j : Nat) : aft (ms ++ [p]) j = if p.2 = (j : Int) then 1000 + p.1 else aft ms j := by simp [aft]
theorem aft_mvs (hn : 0 < n) (hk : k ≤ way.length) (j : Nat) : ∀ i, i ≤ k → aft (mvs (wl n way k) (seqI a n) (seqI b k) i) j = if b ≤ j ∧ j < b + i then 1000 + ((a + mdN n (wv way (j - b)) : Nat) : Int) else 1000 + (j : Int) := by
  intro i
  induction i with
  | zero => intro _; rw [if_neg (by omega)]; rfl
  | succ i ih =>
    intro hi
    rw [mvs_succ, mvAt_is hn hk (by omega)]
    have h1 := ih (by omega)
    by_cases he : a + mdN n (wv way i) = b + i
    · rw [if_pos he, List.append_nil, h1]
      by_cases h2 : j = b + i
      · subst h2
        rw [if_neg (by omega), if_pos (by omega), show b + i - b = i by omega, he]
      · by_cases h3 : b ≤ j ∧ j < b + i
        · rw [if_pos h3, if_pos (by omega)]
        · rw [if_neg h3, if_neg (by omega)]
    · rw [if_neg he, aft_snoc, h1]
      by_cases h2 : j = b + i
      · subst h2
        rw [if_pos rfl, if_pos (by omega), show b + i - b = i by omega]
      · rw [if_neg (by simp only; omega)]
        by_cases h3 : b ≤ j ∧ j < b + i
        · rw [if_pos h3, if_pos (by omega)]
        · rw [if_neg h3, if_neg (by omega)]
theorem mvs_in (hn : 0 < n) (hk : k ≤ way.length) : ∀ i, i ≤ k → ∀ p ∈ mvs (wl n way k) (seqI a n) (seqI b k) i, ∃ u v : Nat, p = ((u : Int), (v : Int)) ∧ u ≠ v ∧ u < a + n ∧ v < b + k := by
  intro i
  induction i with
  | zero => intro _ p hp; simp [mvs] at hp
  | succ i ih =>
    intro hi p hp
    rw [mvs_succ, mvAt_is hn hk (by omega), List.mem_append] at hp
    rcases hp with hp | hp
    · exact ih (by omega) p hp
    · split at hp
      · simp at hp
      · rename_i he
        simp only [List.mem_singleton] at hp
        exact ⟨_, _, hp, he, by have := mdN_lt (n := n) (x := wv way i) hn; omega, by omega⟩
end
/-- a memory of 256 places -/
def afA (ms : List (Int × Int)) : Array Value := ((List.range 256).map fun j => Value.int .i64 (aft ms j)).toArray
def fillA (k : Nat) : Array Value := ((List.range 256).map fun j => Value.int .i64 (if j < k then 1000 + (j : Int) else 0)).toArray
theorem afA_get (ms : List (Int × Int)) (j : Nat) (h : j < 256) : (afA ms)[j]? = some (.int .i64 (aft ms j)) := by simp [afA, h]
theorem fillA_get (k j : Nat) (h : j < 256) (hk : k ≤ j) : (fillA k)[j]? = some (.int .i64 0) := by simp [fillA, h]; omega
theorem fillA_zero : fillA 0 = madeCells #[.int .i64 0] 256 := by
  apply Array.toList_inj.1
  rw [toList_madeCells_one]
  simp only [fillA, Nat.not_lt_zero, if_false]
  apply List.ext_getElem
  · rw [List.length_map, List.length_range, List.length_replicate]
  · intro i h1 h2
    rw [List.getElem_map, List.getElem_replicate]
theorem fillA_full : fillA 256 = afA [] := by
  apply Array.ext_getElem?
  intro j
  by_cases h : j < 256
  · rw [afA_get _ _ h]
    simp [fillA, h, aft]
  · rw [Array.getElem?_eq_none (by simp [fillA]; omega), Array.getElem?_eq_none (by simp [afA]; omega)]
theorem fillA_set (k : Nat) (h : k < 256) : (fillA k).setIfInBounds k (.int .i64 (1000 + (k : Int))) = fillA (k + 1) := by
  apply Array.ext_getElem?
  intro j
  rw [Array.getElem?_setIfInBounds]
  have hs : (fillA k).size = 256 := by simp [fillA]
  have hs' : (fillA (k + 1)).size = 256 := by simp [fillA]
  by_cases h1 : k = j
  · subst h1
    rw [if_pos rfl, if_pos (by omega)]
    simp [fillA, h]
  · rw [if_neg h1]
    by_cases h2 : j < 256
    · simp only [fillA, List.getElem?_toArray, List.getElem?_map, List.getElem?_range h2, Option.map_some, Option.some.injEq, Value.int.injEq, true_and]
      by_cases h3 : j < k
      · rw [if_pos h3, if_pos (by omega)]
      · rw [if_neg h3, if_neg (by omega)]
    · rw [Array.getElem?_eq_none (by omega), Array.getElem?_eq_none (by omega)]
theorem afA_set (ms : List (Int × Int)) (u v : Nat) : (afA ms).setIfInBounds v (.int .i64 (1000 + (u : Int))) = afA (ms ++ [((u : Int), (v : Int))]) := by
  apply Array.ext_getElem?
  intro j
  rw [Array.getElem?_setIfInBounds]
  have hs : (afA ms).size = 256 := by simp [afA]
  have hs' : (afA (ms ++ [((u : Int), (v : Int))])).size = 256 := by simp [afA]
  by_cases h2 : j < 256
  · rw [afA_get _ _ h2, afA_get _ _ h2, aft_snoc]
    by_cases h1 : v = j
    · subst h1
      rw [if_pos rfl, if_pos (by omega), if_pos rfl]
    · rw [if_neg h1, if_neg (by simp only; omega)]
  · have h3 : (afA (ms ++ [((u : Int), (v : Int))]))[j]? = none := Array.getElem?_eq_none (by omega)
    have h4 : (afA ms)[j]? = none := Array.getElem?_eq_none (by omega)
    rw [h3, h4]
    split
    · rw [if_neg (by omega)]
    · rfl
end Go.Proofs.Ytlcgkdhcdldlfaa
