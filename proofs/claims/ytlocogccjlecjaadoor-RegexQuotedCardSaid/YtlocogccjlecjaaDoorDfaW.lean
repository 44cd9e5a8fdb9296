import Derived.Test.YtlocogccjlecjaaDoorCmA
/- The automaton's methods: Next, States, Match, Accepts. -/
namespace Go.Proofs.YtlocogccjlecjaaDoor
open Go.RowKit
/-- an automaton in memory, its rows whole -/
structure DfaS (base : Nat) (w : World) (d : Nat) (q : List St) (ls : List (List Int)) : Prop where
  mem : Dfa base w d q ls
  rows : ∀ t ∈ ls, t.length = 256
  len : q.length = ls.length
  le : ls.length ≤ 64
  pos : 1 ≤ ls.length
  ent : ∀ t ∈ ls, ∀ x ∈ t, x = -1 ∨ ∃ k : Nat, k < ls.length ∧ x = ((k : Nat) : Int)
theorem rowsC_len {ls : List (List Int)} (hr : ∀ t ∈ ls, t.length = 256) : (rowsC ls).length = ls.length * 256 := by
  induction ls with
  | nil => rfl
  | cons a l ih =>
    have h1 := ih (fun t ht => hr t (by simp [ht]))
    have h2 := arrC_size (Nat.le_of_eq (hr a (by simp)))
    unfold rowsC at h1 ⊢
    rw [List.flatMap_cons, List.length_append, h1, Array.length_toList, h2, List.length_cons]
    omega
theorem rowsC_get {ls : List (List Int)} (hr : ∀ t ∈ ls, t.length = 256) {i b : Nat} {t : List Int} {x : Int} (hi : ls[i]? = some t) (hb : t[b]? = some x) : (rowsC ls)[i * 256 + b]? = some (.int .i64 x) := by
  induction ls generalizing i with
  | nil => simp at hi
  | cons a l ih =>
    have h2 : (arrC a).toList.length = 256 := by rw [Array.length_toList]; exact arrC_size (Nat.le_of_eq (hr a (by simp)))
    have hb2 := lt_of_some hb
    unfold rowsC at ih ⊢
    rw [List.flatMap_cons]
    cases i with
    | zero =>
      simp at hi
      subst hi
      have h3 := hr a (by simp)
      rw [Nat.zero_mul, Nat.zero_add, List.getElem?_append_left (by omega), Array.getElem?_toList]
      unfold arrC
      rw [List.getElem?_toArray, List.getElem?_append_left (by simp; omega), List.getElem?_map, hb]
      rfl
    | succ i =>
      have h3 := hr t (by have := List.mem_of_getElem? hi; exact this)
      rw [List.getElem?_append_right (by omega), h2, show (i + 1) * 256 + b - 256 = i * 256 + b by omega]
      exact ih (fun t ht => hr t (by simp [ht])) (by simpa using hi)
theorem acC_get {q : List St} {n i : Nat} {s : St} (h : q[i]? = some s) (hn : i < n) : (acC q n)[i]? = some (.bool s.2) := by
  unfold acC
  rw [List.getElem?_map, List.getElem?_take_of_lt hn, h]
  rfl
theorem DfaS.below {base : Nat} {w w' : World} {d : Nat} {q : List St} {ls : List (List Int)} (h : DfaS base w d q ls) (hb : Below w.heap.size w w') : DfaS base w' d q ls := by
  obtain ⟨h1, tv, av, h2, h3, h4⟩ := h.mem
  exact ⟨⟨h1, tv, av, h2.below hb, own_below h3 hb, own_below h4 hb⟩, h.rows, h.len, h.le, h.pos, h.ent⟩
section
variable {base : Nat} {w : World} {d : Nat} {q : List St} {ls : List (List Int)}
set_option maxRecDepth 100000 in
set_option maxHeartbeats 4000000 in
/-- Next, of a state -/
theorem next_ok (h : DfaS base w d q ls) (s b : Nat) (t : List Int) (x : Int) (hs : ls[s]? = some t) (hx : t[b]? = some x) (hb : b < 256) :
    Calls Tryd.prog 12 #[.pointer (some ⟨d, 0, none⟩), .int .i64 ((s : Nat) : Int), .int .u8 ((b : Nat) : Int)] w fun e w' => e = .returned (.tuple #[.int .i64 x, .int .i64 0]) ∧ w = w' := by
  obtain ⟨h1, tv, av, h2, h3, h4⟩ := h.mem
  have hsl := lt_of_some hs
  obtain ⟨tg, tc, rfl⟩ := own_some h3 (by omega)
  have y0 : w.cell? ⟨d, 0, none⟩ = some (.slice (some ⟨tg, 0, none⟩) ls.length tc) := h2.cell 0
  have y1 : w.cell? ⟨tg, s * 256 + b, none⟩ = some (.int .i64 x) := own_cell h3 (rowsC_get h.rows hs hx)
  have e1 : (⟨tg, 0, none⟩ : Addr).add (s * 256) = ⟨tg, s * 256, none⟩ := by simpa using addr_add tg 0 (s * 256)
  have e2 : (⟨tg, s * 256, none⟩ : Addr).add b = ⟨tg, s * 256 + b, none⟩ := by simpa using addr_add tg (s * 256) b
  have hl : ((s : Nat) : Int) < ((ls.length : Nat) : Int) := by omega
  have hb2 : ((b : Nat) : Int) < 256 := by omega
  have hle := h.le
  clear h h3 h4 hs hx
  go_enter Tryd.func12, Tryd.ntmps12
  go_wp2
  go_returns
  exact ⟨rfl, rfl⟩
set_option maxRecDepth 100000 in
set_option maxHeartbeats 4000000 in
/-- Next, of none of its states -/
theorem next_odd (h : DfaS base w d q ls) (z : Int) (b : Nat) (hz : z < 0 ∨ ((ls.length : Nat) : Int) ≤ z) :
    Calls Tryd.prog 12 #[.pointer (some ⟨d, 0, none⟩), .int .i64 z, .int .u8 ((b : Nat) : Int)] w fun e w' => e = .returned (.tuple #[.int .i64 0, .int .i64 112]) ∧ w = w' := by
  obtain ⟨h1, tv, av, h2, h3, h4⟩ := h.mem
  obtain ⟨tg, tc, rfl⟩ := own_some h3 h.pos
  have y0 : w.cell? ⟨d, 0, none⟩ = some (.slice (some ⟨tg, 0, none⟩) ls.length tc) := h2.cell 0
  clear h h3 h4
  by_cases hz0 : z < 0
  · go_enter Tryd.func12, Tryd.ntmps12
    go_wp2
    go_returns
    exact ⟨rfl, rfl⟩
  · have hz1 : ((ls.length : Nat) : Int) ≤ z := hz.resolve_left hz0
    go_enter Tryd.func12, Tryd.ntmps12
    go_wp2
    go_returns
    exact ⟨rfl, rfl⟩
set_option maxRecDepth 100000 in
theorem next_nil (w : World) (z b : Int) : Calls Tryd.prog 12 #[.pointer none, .int .i64 z, .int .u8 b] w fun e w' => e = .returned (.tuple #[.int .i64 0, .int .i64 1]) ∧ w = w' := by
  go_enter Tryd.func12, Tryd.ntmps12
  go_wp2
  go_returns
  exact ⟨rfl, rfl⟩
set_option maxRecDepth 100000 in
theorem states_ok (h : DfaS base w d q ls) : Calls Tryd.prog 14 #[.pointer (some ⟨d, 0, none⟩)] w fun e w' => e = .returned (.int .i64 ((ls.length : Nat) : Int)) ∧ w = w' := by
  obtain ⟨h1, tv, av, h2, h3, h4⟩ := h.mem
  obtain ⟨tg, tc, rfl⟩ := own_some h3 h.pos
  have y0 : w.cell? ⟨d, 0, none⟩ = some (.slice (some ⟨tg, 0, none⟩) ls.length tc) := h2.cell 0
  clear h h3 h4
  go_enter Tryd.func14, Tryd.ntmps14
  go_wp2
  go_returns
  exact ⟨rfl, rfl⟩
set_option maxRecDepth 100000 in
theorem states_nil (w : World) : Calls Tryd.prog 14 #[.pointer none] w fun e w' => e = .returned (.int .i64 0) ∧ w = w' := by
  go_enter Tryd.func14, Tryd.ntmps14
  go_wp2
  go_returns
  exact ⟨rfl, rfl⟩
set_option maxRecDepth 100000 in
set_option maxHeartbeats 4000000 in
theorem accepts_ok (h : DfaS base w d q ls) (s : Nat) (st : St) (hs : q[s]? = some st) : Calls Tryd.prog 18 #[.pointer (some ⟨d, 0, none⟩), .int .i64 ((s : Nat) : Int)] w fun e w' => e = .returned (.bool st.2) ∧ w = w' := by
  obtain ⟨h1, tv, av, h2, h3, h4⟩ := h.mem
  have hsl := lt_of_some hs
  have hlen := h.len
  obtain ⟨tg, tc, rfl⟩ := own_some h4 (by omega)
  have y0 : w.cell? ⟨d, 1, none⟩ = some (.slice (some ⟨tg, 0, none⟩) ls.length tc) := h2.cell 1
  have y1 : w.cell? ⟨tg, s, none⟩ = some (.bool st.2) := own_cell h4 (acC_get hs (by omega))
  have e1 : (⟨tg, 0, none⟩ : Addr).add s = ⟨tg, s, none⟩ := by simpa using addr_add tg 0 s
  have hl : ((s : Nat) : Int) < ((ls.length : Nat) : Int) := by omega
  have hle := h.le
  clear h h3 h4 hs
  go_enter Tryd.func18, Tryd.ntmps18
  go_wp2
  go_returns
  exact ⟨rfl, rfl⟩
set_option maxRecDepth 100000 in
set_option maxHeartbeats 4000000 in
theorem accepts_odd (h : DfaS base w d q ls) (z : Int) (hz : z < 0 ∨ ((ls.length : Nat) : Int) ≤ z) : Calls Tryd.prog 18 #[.pointer (some ⟨d, 0, none⟩), .int .i64 z] w fun e w' => e = .returned (.bool false) ∧ w = w' := by
  obtain ⟨h1, tv, av, h2, h3, h4⟩ := h.mem
  have hlen := h.len
  obtain ⟨tg, tc, rfl⟩ := own_some h4 h.pos
  have y0 : w.cell? ⟨d, 1, none⟩ = some (.slice (some ⟨tg, 0, none⟩) ls.length tc) := h2.cell 1
  clear h h3 h4
  by_cases hz0 : z < 0
  · have hz1 : ¬ (0 ≤ z) := by omega
    go_enter Tryd.func18, Tryd.ntmps18
    go_wp2
    go_returns
    exact ⟨rfl, rfl⟩
  · have hz1 : 0 ≤ z := by omega
    have hz2 : ¬ (z < ((ls.length : Nat) : Int)) := by omega
    go_enter Tryd.func18, Tryd.ntmps18
    go_wp2
    go_returns
    exact ⟨rfl, rfl⟩
set_option maxRecDepth 100000 in
theorem accepts_nil (w : World) (z : Int) : Calls Tryd.prog 18 #[.pointer none, .int .i64 z] w fun e w' => e = .returned (.bool false) ∧ w = w' := by
  go_enter Tryd.func18, Tryd.ntmps18
  go_wp2
  go_returns
  exact ⟨rfl, rfl⟩
/-- where a text leads from a state -/
def goF (ls : List (List Int)) : Nat → List Nat → Option Nat
  | s, [] => some s
  | s, b :: r => if (ls.getD s []).getD b (-1) < 0 then none else goF ls ((ls.getD s []).getD b (-1)).toNat r
def matchF (ls : List (List Int)) (q : List St) (l : List Nat) : Bool := match goF ls 0 l with
  | none => false
  | some s => (q.getD s (0, false)).2
def U8 (l : List Nat) : List Value := l.map fun n => .int .u8 ((n : Nat) : Int)
theorem goF_drop {ls : List (List Int)} {s i b : Nat} {l : List Nat} (h : l[i]? = some b) : goF ls s (l.drop i) = if (ls.getD s []).getD b (-1) < 0 then none else goF ls ((ls.getD s []).getD b (-1)).toNat (l.drop (i + 1)) := by
  have hi := lt_of_some h
  rw [List.drop_eq_getElem_cons hi]
  rw [List.getElem?_eq_getElem hi] at h
  injection h with h
  rw [h]
  rfl
set_option maxRecDepth 100000 in
set_option maxHeartbeats 4000000 in
/-- Match -/
theorem match_any (h : DfaS base w d q ls) (A : Option Addr) (n c : Nat) (l : List Nat) (hr : Rd w A (U8 l)) (hl : l.length = n) (hb : ∀ b ∈ l, b < 256) (hn : n ≤ 4611686018427387904) :
    Calls Tryd.prog 15 #[.pointer (some ⟨d, 0, none⟩), .slice A n c] w fun e w' => e = .returned (.bool (matchF ls q l)) ∧ w = w' := by
  obtain ⟨h1, tv, av, h2, h3, h4⟩ := h.mem
  obtain ⟨tg, tc, rfl⟩ := own_some h3 h.pos
  obtain ⟨ag, ac, rfl⟩ := own_some h4 h.pos
  have y0 : w.cell? ⟨d, 0, none⟩ = some (.slice (some ⟨tg, 0, none⟩) ls.length tc) := h2.cell 0
  have x0 : w.cell? ⟨d, 1, none⟩ = some (.slice (some ⟨ag, 0, none⟩) ls.length ac) := h2.cell 1
  have HD := Lib.hid (And.intro h (And.intro h3 (And.intro h4 (And.intro hr (And.intro hb hl)))))
  have hpos := h.pos
  have hle := h.le
  clear h h3 h4 hr hb hl
  go_enter Tryd.func15, Tryd.ntmps15
  go_wp2
  go_loopw [5, 12] (fun sv iv wr => ∃ i s : Nat, sv = .int .i64 ((s : Nat) : Int) ∧ iv = .int .i64 ((i : Nat) : Int) ∧ i ≤ n ∧ s < ls.length ∧ goF ls s (l.drop i) = goF ls 0 l ∧ w = wr) (fun _ iv _ => n - (intOf iv).toNat)
  case atStart => exact ⟨0, 0, rfl, rfl, Nat.zero_le _, by omega, rfl, rfl⟩
  case round =>
    obtain ⟨i, s, rfl, rfl, hin, hs, hg, rfl⟩ := hrel
    have HG := Lib.hid hg
    clear hg
    by_cases hi : i = n
    · subst hi
      obtain ⟨st, hst⟩ : ∃ st, q[s]? = some st := ⟨_, List.getElem?_eq_getElem (by have := HD.out.1.len; omega)⟩
      have y1 : w.cell? ⟨ag, s, none⟩ = some (.bool st.2) := own_cell HD.out.2.2.1 (acC_get hst hs)
      have e1 : (⟨ag, 0, none⟩ : Addr).add s = ⟨ag, s, none⟩ := by simpa using addr_add ag 0 s
      have hl : ((s : Nat) : Int) < ((ls.length : Nat) : Int) := by omega
      have HS := Lib.hid hst
      clear hst
      go_wp2
      go_returns
      refine ⟨?_, rfl⟩
      have h0 := HG.out
      rw [List.drop_of_length_le (by have := HD.out.2.2.2.2.2; omega)] at h0
      unfold matchF
      rw [← h0]
      simp only [goF]
      rw [List.getD_eq_getElem?_getD, HS.out]
      rfl
    · have hi2 : ((i : Nat) : Int) < ((n : Nat) : Int) := by omega
      obtain ⟨b, hbi⟩ : ∃ b, l[i]? = some b := ⟨_, List.getElem?_eq_getElem (by have := HD.out.2.2.2.2.2; omega)⟩
      have hb256 := HD.out.2.2.2.2.1 b (List.mem_of_getElem? hbi)
      obtain ⟨t, hst⟩ : ∃ t, ls[s]? = some t := ⟨_, List.getElem?_eq_getElem hs⟩
      have htm := List.mem_of_getElem? hst
      have ht := HD.out.1.rows t htm
      obtain ⟨x, hx⟩ : ∃ x, t[b]? = some x := ⟨_, List.getElem?_eq_getElem (by omega)⟩
      have hent := HD.out.1.ent t htm x (List.mem_of_getElem? hx)
      have hg2 := goF_drop (ls := ls) (s := s) hbi
      have hgd : (ls.getD s []).getD b (-1) = x := by simp only [List.getD_eq_getElem?_getD, hst, Option.getD_some, hx]
      rw [HG.out, hgd] at hg2
      clear hgd
      obtain ⟨g, o, rfl, hc⟩ := HD.out.2.2.2.1.at i (by have := lt_of_some hbi; unfold U8; rw [List.length_map]; exact this)
      have hc2 : w.cell? ⟨g, o + i, none⟩ = some (.int .u8 ((b : Nat) : Int)) := by
        rw [hc, ← List.getElem?_eq_getElem]
        unfold U8
        rw [List.getElem?_map, hbi]
        rfl
      have e0 : (⟨g, o, none⟩ : Addr).add i = ⟨g, o + i, none⟩ := addr_add g o i
      have y1 : w.cell? ⟨tg, s * 256 + b, none⟩ = some (.int .i64 x) := own_cell HD.out.2.1 (rowsC_get HD.out.1.rows hst hx)
      have e1 : (⟨tg, 0, none⟩ : Addr).add (s * 256) = ⟨tg, s * 256, none⟩ := by simpa using addr_add tg 0 (s * 256)
      have e2 : (⟨tg, s * 256, none⟩ : Addr).add b = ⟨tg, s * 256 + b, none⟩ := by simpa using addr_add tg (s * 256) b
      have hl : ((s : Nat) : Int) < ((ls.length : Nat) : Int) := by omega
      have hb2 : ((b : Nat) : Int) < 256 := by omega
      clear hc hx hst htm ht hbi
      rcases hent with rfl | ⟨k, hk, rfl⟩
      · have HG2 := Lib.hid hg2
        clear hg2
        go_wp2
        go_returns
        refine ⟨?_, rfl⟩
        have h0 := HG2.out
        unfold matchF
        rw [h0]
        rfl
      · have hk0 : ¬ (((k : Nat) : Int) < 0) := by omega
        rw [if_neg hk0, Int.toNat_natCast] at hg2
        have HG2 := Lib.hid hg2
        clear hg2
        go_wp2
        go_roundw
        case rel => exact ⟨i + 1, k, rfl, rfl, by omega, hk, HG2.out.symm, trivial⟩
        case measure => simp [intOf]; omega
set_option maxRecDepth 100000 in
theorem match_nil (w : World) (v : Value) : Calls Tryd.prog 15 #[.pointer none, v] w fun e w' => e = .returned (.bool false) ∧ w = w' := by
  go_enter Tryd.func15, Tryd.ntmps15
  go_wp2
  go_returns
  exact ⟨rfl, rfl⟩
end
end Go.Proofs.YtlocogccjlecjaaDoor
