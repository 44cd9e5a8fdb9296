import Derived.Test.YtcambbnmeiolgaaBeg
namespace Go.Proofs.Ytcambbnmeiolgaa
open Go.RowKit

theorem lst_take (s : ByteArray) (k : Nat) : lst (s.extract 0 k) = (lst s).take k := by
  show (s.extract 0 k).data.toList = _
  rw [ByteArray.data_extract, Array.toList_extract]
  simp [lst, List.extract_eq_take_drop]
theorem lst_drop (s : ByteArray) (k : Nat) : lst (s.extract k s.size) = (lst s).drop k := by
  show (s.extract k s.size).data.toList = _
  rw [ByteArray.data_extract, Array.toList_extract]
  have : s.data.toList.length = s.size := lst_length s
  simp [lst, List.extract_eq_take_drop]
  rw [List.take_of_length_le (by simp)]
theorem mk_lst (s : ByteArray) : (⟨(lst s).toArray⟩ : ByteArray) = s := by
  cases s
  rfl
/-- does the text end so? -/
def sfx (t s : List UInt8) : Bool := Lib.hasSuffix t s
theorem sfx_iff {t s : List UInt8} : sfx t s = true ↔ s <:+ t := by
  unfold sfx Lib.hasSuffix
  exact List.isSuffixOf_iff_suffix
/-- the greatest length above h, and k at most, of a beginning of the stop string that the text ends with; h: there is none -/
def hold1 (t s : List UInt8) (h : Nat) : Nat → Nat
  | 0 => h
  | k + 1 => if k + 1 ≤ h then h else if sfx t (s.take (k + 1)) then k + 1 else hold1 t s h k
theorem hold1_done {t s : List UInt8} {h k : Nat} (hk : k ≤ h) : hold1 t s h k = h := by
  cases k with
  | zero => rfl
  | succ k => simp [hold1, hk]
theorem hold1_yes {t s : List UInt8} {h k : Nat} (hk : h < k) (hs : sfx t (s.take k) = true) : hold1 t s h k = k := by
  obtain ⟨k, rfl⟩ : ∃ j, k = j + 1 := ⟨k - 1, by omega⟩
  simp only [hold1]
  rw [if_neg (by omega), if_pos hs]
theorem hold1_no {t s : List UInt8} {h k : Nat} (hk : h < k) (hs : sfx t (s.take k) = false) : hold1 t s h k = hold1 t s h (k - 1) := by
  obtain ⟨k, rfl⟩ : ∃ j, k = j + 1 := ⟨k - 1, by omega⟩
  simp only [hold1]
  rw [if_neg (by omega), if_neg (by rw [hs]; decide)]
  rfl
theorem hold1_le (t s : List UInt8) (h : Nat) : ∀ k, h ≤ hold1 t s h k ∧ hold1 t s h k ≤ max h k := by
  intro k
  induction k with
  | zero => simp [hold1]
  | succ k ih =>
    simp only [hold1]
    split
    · omega
    · split
      · omega
      · omega
/-- how much of the text's end may be a stop string's beginning -/
def holdL (sts : List (List UInt8)) (t : List UInt8) : Nat := sts.foldl (fun h s => hold1 t s h (min (s.length - 1) t.length)) 0
theorem holdL_snoc (sts : List (List UInt8)) (s t : List UInt8) : holdL (sts ++ [s]) t = hold1 t s (holdL sts t) (min (s.length - 1) t.length) := by simp [holdL]
theorem holdL_le (t : List UInt8) : ∀ (sts : List (List UInt8)), holdL sts t ≤ t.length := by
  have : ∀ (sts : List (List UInt8)) (h : Nat), h ≤ t.length → sts.foldl (fun h s => hold1 t s h (min (s.length - 1) t.length)) h ≤ t.length := by
    intro sts
    induction sts with
    | nil => intro h hh; exact hh
    | cons s r ih =>
      intro h hh
      rw [List.foldl_cons]
      refine ih _ ?_
      have := (hold1_le t s h (min (s.length - 1) t.length)).2
      omega
  exact fun sts => this sts 0 (Nat.zero_le _)
/-- a rune's beginning? -/
def begL (l : List UInt8) : Bool := begB ⟨l.toArray⟩
theorem begL_lst (s : ByteArray) : begL (lst s) = begB s := by unfold begL; rw [mk_lst]
/-- the greatest length, r at most, of a rune's beginning at the end -/
def tailR (a : List UInt8) : Nat → Nat
  | 0 => 0
  | r + 1 => if begL (a.drop (a.length - (r + 1))) then r + 1 else tailR a r
theorem tailR_yes {a : List UInt8} {r : Nat} (h0 : 0 < r) (h : begL (a.drop (a.length - r)) = true) : tailR a r = r := by
  obtain ⟨r, rfl⟩ : ∃ j, r = j + 1 := ⟨r - 1, by omega⟩
  simp only [tailR]
  rw [if_pos h]
theorem tailR_no {a : List UInt8} {r : Nat} (h0 : 0 < r) (h : begL (a.drop (a.length - r)) = false) : tailR a r = tailR a (r - 1) := by
  obtain ⟨r, rfl⟩ : ∃ j, r = j + 1 := ⟨r - 1, by omega⟩
  simp only [tailR]
  rw [if_neg (by rw [h]; decide)]
  rfl
theorem tailR_le (a : List UInt8) : ∀ r, tailR a r ≤ r := by
  intro r
  induction r with
  | zero => exact Nat.le_refl _
  | succ r ih =>
    simp only [tailR]
    split <;> omega
def waitsL (sts : List (List UInt8)) (t : List UInt8) : Nat := holdL sts t + tailR (t.take (t.length - holdL sts t)) (min 3 (t.length - holdL sts t))
theorem waitsL_le (sts : List (List UInt8)) (t : List UInt8) : waitsL sts t ≤ t.length := by
  have h1 := holdL_le t sts
  have h2 := tailR_le (t.take (t.length - holdL sts t)) (min 3 (t.length - holdL sts t))
  unfold waitsL
  omega
/-- the longest stop string that the text ends with -/
def longest (sts : List (List UInt8)) (t : List UInt8) : Nat := sts.foldl (fun g s => if sfx t s then max g s.length else g) 0
theorem longest_snoc (sts : List (List UInt8)) (s t : List UInt8) : longest (sts ++ [s]) t = if sfx t s then max (longest sts t) s.length else longest sts t := by simp [longest]
theorem longest_le (t : List UInt8) : ∀ (sts : List (List UInt8)), longest sts t ≤ t.length := by
  have : ∀ (sts : List (List UInt8)) (g : Nat), g ≤ t.length → sts.foldl (fun g s => if sfx t s then max g s.length else g) g ≤ t.length := by
    intro sts
    induction sts with
    | nil => intro g hg; exact hg
    | cons s r ih =>
      intro g hg
      rw [List.foldl_cons]
      refine ih _ ?_
      split
      · rename_i h
        have := (sfx_iff.1 h).length_le
        omega
      · exact hg
  exact fun sts => this sts 0 (Nat.zero_le _)
end Go.Proofs.Ytcambbnmeiolgaa
