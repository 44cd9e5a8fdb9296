import Derived.Test.YtlocogccjlecjaaDoorLivQ
import Derived.Test.YtlocogccjlecjaaDoorDig
/- A text written as escapes: its tree (plain). -/
namespace Go.Proofs.YtlocogccjlecjaaDoor
open Go.RowKit
/-- a byte that may stand for itself -/
def letB (b : Nat) : Bool := decide (97 ≤ b ∧ b ≤ 122) || decide (48 ≤ b ∧ b ≤ 57) || b == 32 || b == 123 || b == 34 || b == 94 || b == 45
def pcL (p : Bool) (b : Nat) : List Nat := if p && letB b then [b] else digL b
def exL (p : Bool) (l : List Nat) : List Nat := l.flatMap (pcL p)
theorem hexB_lt : ∀ k, k < 16 → hexB k < 256 := by decide
theorem hexF_hexB : ∀ k, k < 16 → hexF (hexB k) = ((k : Nat) : Int) := by decide
theorem letB_ok : ∀ b, b < 256 → letB b = true → odd b = false ∧ b ≠ 40 ∧ b ≠ 91 ∧ b ≠ 92 ∧ b ≠ 46 ∧ b ≠ 124 ∧ b ≠ 41 ∧ isIn sufL b = false := of_decide_eq_true (by kernel_rfl)
theorem esc_ok : (92 : Nat) ≠ 124 ∧ (92 : Nat) ≠ 41 ∧ isIn sufL 92 = false := by decide
theorem pcL_lt {p : Bool} {b : Nat} (hb : b < 256) : ∀ x ∈ pcL p b, x < 256 := by
  intro x hx
  unfold pcL at hx
  split at hx
  · rw [List.mem_singleton.1 hx]; exact hb
  · have h1 := hexB_lt (b / 16) (by omega)
    have h2 := hexB_lt (b % 16) (by omega)
    simp [digL] at hx
    omega
theorem exL_lt {p : Bool} {l : List Nat} (hl : ∀ b ∈ l, b < 256) : ∀ x ∈ exL p l, x < 256 := by
  intro x hx
  obtain ⟨b, hb, hx⟩ := List.mem_flatMap.1 hx
  exact pcL_lt (hl b hb) x hx
theorem bt_strOf {L : List Nat} (hL : ∀ x ∈ L, x < 256) (i : Nat) : bt (strOf L) i = L.getD i 0 := by
  unfold bt strOf
  simp only [List.getD_eq_getElem?_getD, List.getElem?_map]
  cases h : L[i]? with
  | none => rfl
  | some x =>
    have := hL x (List.mem_of_getElem? h)
    simp [Nat.mod_eq_of_lt this]
theorem pcL_head (p : Bool) (b : Nat) : ∃ c r, pcL p b = c :: r ∧ ((p && letB b) = true ∧ c = b ∨ (p && letB b) = false ∧ c = 92) := by
  unfold pcL
  cases h : (p && letB b) with
  | true => exact ⟨b, [], by simp, .inl ⟨rfl, rfl⟩⟩
  | false => exact ⟨92, _, by simp [digL]; rfl, .inr ⟨rfl, rfl⟩⟩
/-- the first byte of a piece begins no branch, ends none, repeats nothing -/
theorem head_ok {p : Bool} {b c : Nat} {r : List Nat} (hb : b < 256) (h : pcL p b = c :: r) : c ≠ 124 ∧ c ≠ 41 ∧ isIn sufL c = false := by
  obtain ⟨c', r', h1, h2⟩ := pcL_head p b
  rw [h] at h1
  cases h1
  rcases h2 with ⟨h2, rfl⟩ | ⟨_, rfl⟩
  · have h3 := letB_ok c hb (by cases p <;> simp_all)
    exact ⟨h3.2.2.2.2.2.1, h3.2.2.2.2.2.2.1, h3.2.2.2.2.2.2.2⟩
  · exact esc_ok
section
variable {p : Bool} {b : Nat} {pre rest : List Nat}
theorem getD_mid (i : Nat) : (pre ++ rest).getD (pre.length + i) 0 = rest.getD i 0 := by
  rw [List.getD_eq_getElem?_getD, List.getD_eq_getElem?_getD, List.getElem?_append_right (by omega), Nat.add_sub_cancel_left]
theorem quo_atom (hb : b < 256) (hL : ∀ x ∈ pre ++ (pcL p b ++ rest), x < 256) : Gr (strOf (pre ++ (pcL p b ++ rest))) (.atom pre.length) (.ok (.leaf (spanN b b)) (pre.length + (pcL p b).length)) := by
  have B := fun i => bt_strOf hL (pre.length + i)
  simp only [getD_mid] at B
  cases h : (p && letB b) with
  | true =>
    have hp : pcL p b = [b] := by unfold pcL; rw [if_pos h]
    have h3 := letB_ok b hb (by cases p <;> simp_all)
    rw [hp] at B ⊢
    have b0 : bt (strOf (pre ++ ([b] ++ rest))) pre.length = b := B 0
    have hg := Gr.atByte (s := strOf (pre ++ ([b] ++ rest))) (i := pre.length) (by rw [b0]; exact h3.1) (by rw [b0]; exact h3.2.1) (by rw [b0]; exact h3.2.2.1) (by rw [b0]; exact h3.2.2.2.1) (by rw [b0]; exact h3.2.2.2.2.1)
    rw [b0] at hg
    exact hg
  | false =>
    have hp : pcL p b = digL b := by unfold pcL; rw [if_neg (by rw [h]; decide)]
    rw [hp] at B ⊢
    have b0 : bt (strOf (pre ++ (digL b ++ rest))) pre.length = 92 := B 0
    have b1 : bt (strOf (pre ++ (digL b ++ rest))) (pre.length + 1) = 120 := B 1
    have b2 : bt (strOf (pre ++ (digL b ++ rest))) (pre.length + 2) = hexB (b / 16) := B 2
    have b3 : bt (strOf (pre ++ (digL b ++ rest))) (pre.length + 3) = hexB (b % 16) := B 3
    have hsz : (strOf (pre ++ (digL b ++ rest))).size = pre.length + (4 + rest.length) := by rw [strOf_size, List.length_append, List.length_append]; rfl
    have f1 := hexF_hexB (b / 16) (by omega)
    have f2 := hexF_hexB (b % 16) (by omega)
    have he : escF (strOf (pre ++ (digL b ++ rest))) pre.length = some (spanN b b, true, pre.length + 4) := by
      unfold escF
      rw [if_neg (by omega), b1, if_neg (by decide), if_neg (by decide), if_neg (by decide), if_neg (by decide), if_neg (by decide), if_neg (by decide), if_pos rfl, b2, b3, f1, f2, if_neg (by omega)]
      have e : 16 * (((b / 16 : Nat) : Int)).toNat + (((b % 16 : Nat) : Int)).toNat = b := by omega
      rw [e]
    exact .atEsc b0 he
theorem exL_cons (p : Bool) (b : Nat) (r : List Nat) : exL p (b :: r) = pcL p b ++ exL p r := rfl
theorem quo_suf {l : List Nat} {x : Rx} (hl : ∀ b ∈ l, b < 256) (hL : ∀ x ∈ pre ++ exL p l, x < 256) : Gr (strOf (pre ++ exL p l)) (.suf pre.length x) (.ok x pre.length) := by
  refine .sufEnd (fun ⟨h1, h2⟩ => ?_)
  cases l with
  | nil =>
    rw [strOf_size] at h1
    simp [exL] at h1
  | cons b r =>
    obtain ⟨c, t, hc, _⟩ := pcL_head p b
    have B := bt_strOf hL (pre.length + 0)
    rw [getD_mid, exL_cons, hc] at B
    simp only [List.cons_append, List.getD_cons_zero, Nat.add_zero] at B
    rw [exL_cons, hc, List.cons_append] at h2
    rw [B, (head_ok (hl b (by simp)) hc).2.2] at h2
    cases h2
def seqL (acc : Rx) (l : List Nat) : Rx := l.foldl (fun a b => .seq a (.leaf (spanN b b))) acc
theorem quo_br : ∀ (l pre : List Nat) (acc : Rx), (∀ b ∈ l, b < 256) → (∀ x ∈ pre ++ exL p l, x < 256) → Gr (strOf (pre ++ exL p l)) (.brL pre.length acc) (.ok (seqL acc l) (strOf (pre ++ exL p l)).size)
  | [], pre, acc, _, _ => by
    have e : (strOf (pre ++ exL p [])).size = pre.length := by rw [strOf_size]; simp [exL]
    rw [e]
    exact .brEnd (.inl (by rw [e]; exact Nat.le_refl _))
  | b :: r, pre, acc, hl, hL => by
    have hb : b < 256 := hl b (by simp)
    have hr : ∀ b ∈ r, b < 256 := fun x hx => hl x (by simp [hx])
    have e : pre ++ exL p (b :: r) = (pre ++ pcL p b) ++ exL p r := by rw [exL_cons, List.append_assoc]
    have h2 := quo_br r (pre ++ pcL p b) (.seq acc (.leaf (spanN b b))) hr (by rw [← e]; exact hL)
    have h1 := quo_atom (p := p) (pre := pre) (rest := exL p r) hb (by rw [← exL_cons]; exact hL)
    have h3 := quo_suf (p := p) (pre := pre ++ pcL p b) (x := .leaf (spanN b b)) hr (by rw [← e]; exact hL)
    rw [← exL_cons] at h1
    rw [← e] at h2 h3
    rw [List.length_append] at h2 h3
    obtain ⟨c, t, hc, _⟩ := pcL_head p b
    have hk := head_ok hb hc
    have B := bt_strOf hL (pre.length + 0)
    rw [getD_mid, exL_cons, hc] at B
    simp only [List.cons_append, List.getD_cons_zero, Nat.add_zero] at B
    have B2 : bt (strOf (pre ++ exL p (b :: r))) pre.length = c := by rw [exL_cons, hc]; exact B
    refine .brMore ?_ (by rw [B2]; exact hk.1) (by rw [B2]; exact hk.2.1) h1 h3 h2
    rw [strOf_size, List.length_append, exL_cons, hc]
    simp
end
def quoT (l : List Nat) : Rx := .alt .no (seqL .eps l)
theorem quo_pars {p : Bool} {l : List Nat} (hl : ∀ b ∈ l, b < 256) (h64 : (exL p l).length ≤ 64) : Pars (strOf (exL p l)) (some (quoT l)) 0 := by
  have h := quo_br (p := p) l [] .eps hl (exL_lt hl)
  rw [List.nil_append] at h
  exact .ok (by rw [strOf_size]; exact h64) (.exOk h (.exEnd (fun h => by omega)))
end Go.Proofs.YtlocogccjlecjaaDoor
