import Derived.Test.YtobklhnechbpaaaBokP
namespace Go.Proofs.Ytobklhnechbpaaa
open Go.RowKit
/-! note, still -/
def NoteOut (H q : Nat) (w : World) (lv sv : Value) (n : Nat) (vals wvals : List Value) (Ls : List (List Int)) (x : Value) (l : List Int) (w' : World) : Prop :=
  ∃ lv' sv' y, Bok H q w' lv' sv' (n + 1) (vals ++ [x]) (wvals ++ [y]) (Ls ++ [l]) ∧ Kp (Kn q lv sv) w w' ∧ (lv'.ownBlock = lv.ownBlock ∨ ∀ k, lv'.ownBlock = some k → w.heap.size ≤ k) ∧ (sv'.ownBlock = sv.ownBlock ∨ ∀ k, sv'.ownBlock = some k → w.heap.size ≤ k)
theorem ob_new {v : Value} {g n c z : Nat} (h : v.ownBlock = some g ∨ z ≤ g) : (Value.slice (some ⟨g, 0, none⟩) n c).ownBlock = v.ownBlock ∨ ∀ k, (Value.slice (some ⟨g, 0, none⟩) n c).ownBlock = some k → z ≤ k := by
  rcases h with e | e
  · left; rw [e]; rfl
  · right; intro k hk
    have : g = k := by simpa [Value.ownBlock] using hk
    omega
set_option maxRecDepth 100000 in
set_option maxHeartbeats 4000000 in
theorem note_any (w : World) (H q : Nat) (lv sv : Value) (n : Nat) (vals wvals : List Value) (Ls : List (List Int)) (A : Option Addr) (m c : Nat) (l : List Int) (h : Bok H q w lv sv n vals wvals Ls) (hml : l.length = m) (hx : w.ownsRow H 5 1 (.slice A m c) m (B8 l)) (hl : m ≤ 1099511627776) (hu : ∀ (i : Nat) (u : Value), vals[i]? = some u → (Value.slice A m c).ownBlock = none ∨ (Value.slice A m c).ownBlock ≠ u.ownBlock) (hn : n ≤ 1099511627776) :
    Calls Try.prog 33 #[.pointer (some ⟨q, 0, none⟩), .slice A m c] w fun e w' => e = .returned (.tuple #[]) ∧ NoteOut H q w lv sv n vals wvals Ls (.slice A m c) l w' := by
  have a2 : (⟨q, 0, none⟩ : Addr).add 2 = ⟨q, 2, none⟩ := by simpa using addr_add q 0 2
  obtain ⟨lA, lc, rfl, _, _⟩ := own_rd h.t.rl
  obtain ⟨sA, sc, rfl, _, _⟩ := own_rd h.t.rs
  have x0 : w.cell? ⟨q, 0, none⟩ = some (.slice lA n lc) := h.t.bk.cell _
  have BK := Lib.hid h
  have HU := Lib.hid hu
  have HX := Lib.hid hx
  have oL := h.t.rl
  have hHw : H ≤ w.heap.size := by have := h.t.hq; have := h.t.bk.lt; omega
  clear h hu hx
  go_enter Try.func33, Try.ntmps33
  go_wp2_with (at_builtin; refine app (w0 := w) H rfl _ _ 55 22 (.slice none 0 0) 1 24 rfl Try.underlying55 info22 rfl (by decide) (by decide) (.slice lA n lc) n vals #[.slice A m c] rfl rfl rfl (by simp [Value.oneCell']) oL (Below.refl H w) (by omega) (by omega) ?_; intro g1 cap1 w3 os3 hb3 hg3 hat3; have k5 := (BK.out.t.cellL hg3).frozen 0; have k6 : w3.cell? ⟨q, 0, none⟩ = some (.slice lA n lc) := (BK.out.t.cellL hg3).cell _)
  obtain ⟨S2, hk2⟩ := BK.out.t.pushL os3 hg3 (hat3.elim (fun e => .inl e.symm) (fun e => .inr (by omega)))
  have o2 := ownKp HX.out hk2 (BK.out.t.row HX.out (by decide) (by decide))
  have hob1 := ob_new (n := n + 1) (c := cap1) (z := w.heap.size) (hat3.elim (fun e => Or.inl e.symm) (fun e => .inr (by omega)))
  have OB1 := Lib.hid hob1
  clear k5 k6 os3 hb3 hg3 hat3 oL x0 hob1
  generalize (w3.setCell ⟨q, 0, none⟩ (.slice (some ⟨g1, 0, none⟩) (n + 1) cap1)) = w4 at *
  generalize hL1 : Value.slice (some ⟨g1, 0, none⟩) (n + 1) cap1 = L1 at *
  clear hL1
  have y5 : w4.cell? ⟨q, 2, none⟩ = some (.slice sA n sc) := S2.bk.cell _
  have y5' : w4.drew.cell? ⟨q, 2, none⟩ = some (.slice sA n sc) := y5
  have SS2 := Lib.hid S2
  have O2 := Lib.hid o2
  have K2 := Lib.hid hk2
  clear S2 o2 hk2
  go_region_law (first
    | ((fail_if_success (have := oy1)); (try go_simp); go_at_call 25; refine (copyBytes_any A m c l hml (by omega) _ (Rd.below (own_rdv O2.out) (Below.drew (Below.refl _ _)))).mono ?_; rintro e w5 ⟨y1, rfl, oy1, hb5⟩; have s5 := SS2.out.below (bthen (Below.drew (Below.refl w4.heap.size w4)) hb5); obtain ⟨yA, yc, rfl, _, _⟩ := own_rd oy1; have z5 : w5.cell? ⟨q, 2, none⟩ = some (.slice sA n sc) := s5.bk.cell _; have z5' : (w5.alloc (.cells #[.slice yA m yc] 22)).cell? ⟨q, 2, none⟩ = some (.slice sA n sc) := (s5.bk.alloc _).cell _)
    | (refine appStep (w0 := w5.alloc (.cells #[.slice yA m yc] 22)) H rfl _ _ 55 22 (.slice none 0 0) 1 24 rfl Try.underlying55 info22 rfl (by decide) (by decide) (.slice sA n sc) n wvals w5.heap.size #[.slice yA m yc] rfl rfl rfl (by simp [Value.oneCell']) (Blk.new w5 _ 22) (s5.rs.alloc _) (Below.refl _ _) (by have := s5.hq; have := s5.bk.lt; simp; omega) (by omega) ?_; intro g2 cap2 w6 os6 hb6 hg6 hat6; have s6 := s5.below (show Below w5.heap.size w5 (w5.alloc (.cells #[.slice yA m yc] 22)) from (Below.refl _ _).alloc (Nat.le_refl _) _); have k7 := (s6.cellS hg6).frozen 2; have k8 : w6.cell? ⟨q, 2, none⟩ = some (.slice sA n sc) := (s6.cellS hg6).cell _))
  all_goals
    obtain ⟨S3, hk3⟩ := s6.pushS os6 hg6 (hat6.elim (fun e => .inl e) (fun e => .inr (by rw [e]; simp)))
    have hbA := bthen (bthen (Below.drew (Below.refl w4.heap.size w4)) hb5) ((Below.refl w5.heap.size w5).alloc (Nat.le_refl _) (.cells #[.slice yA m yc] 22))
    have bA := (Below.refl w5.heap.size w5).alloc (Nat.le_refl _) (.cells #[.slice yA m yc] 22)
    have o3 := own_below O2.out hbA
    have o4 := own_below oy1 bA
    have o3' := ownKp o3 hk3 (s6.row o3 (by decide) (by decide))
    have o4' := ownKp o4 hk3 (s6.row o4 (by decide) (by decide))
    have hz : w.heap.size ≤ w5.heap.size := by have h1 := K2.out.size; have h2 := (bthen (Below.drew (Below.refl w4.heap.size w4)) hb5).size; omega
    have hkk := (K2.out.below hbA).step hk3 (fun k hk e => by
      rcases e with e | e | e
      · exact .inl e
      · rcases OB1.out with o | o
        · exact .inr (.inl (o ▸ e))
        · have := o k e; omega
      · exact .inr (.inr e))
    have OUT := Lib.hid (show NoteOut H q w (.slice lA n lc) (.slice sA n sc) n vals wvals Ls (.slice A m c) l _ from
      ⟨_, _, _, BK.out.snoc S3 hkk (by rw [hml]; exact o3') (by rw [hml]; exact own_base o4' (by have := K2.out.size; simp; omega)) (by omega) HU.out, hkk, OB1.out, ob_new (hat6.elim .inl (fun e => .inr (by rw [e]; simp; omega)))⟩)
    clear k7 k8 os6 hg6 hat6 hb6 s6 hk3 bA hbA z5 z5' s5 oy1 hb5 o3 o4 o3' o4' S3 hkk
    go_wp2
    refine bodyPost_end (results_none rfl _ _ _) rfl ?_
    exact ⟨rfl, OUT.out⟩
set_option maxRecDepth 100000 in
set_option maxHeartbeats 2000000 in
/-- still -/
theorem bstill_any (w : World) (H q : Nat) (lv sv : Value) (n : Nat) (vals wvals : List Value) (Ls : List (List Int)) (h : Bok H q w lv sv n vals wvals Ls) (hn : n ≤ 1099511627776) :
    Calls Try.prog 34 #[.pointer (some ⟨q, 0, none⟩)] w fun e w' => e = .returned (.bool true) ∧ Below w.heap.size w w' := by
  have a2 : (⟨q, 0, none⟩ : Addr).add 2 = ⟨q, 2, none⟩ := by simpa using addr_add q 0 2
  have hl1 := h.len.1
  have hm1 := h.len.2
  have hln := h.ln
  obtain ⟨lA, lc, rfl, _, rl⟩ := own_rd h.t.rl
  obtain ⟨sA, sc, rfl, _, rm⟩ := own_rd h.t.rs
  have RL := Lib.hid rl
  have RM := Lib.hid rm
  have BK := Lib.hid h
  clear rl rm h
  go_enter Try.func34, Try.ntmps34
  go_wp2
  go_loopw [3] (fun iv wr => ∃ i : Nat, i ≤ n ∧ iv = .int .i64 (i : Int) ∧ Below w.heap.size w wr) (fun iv _ => n - (intOf iv).toNat)
  case atStart => exact ⟨0, by omega, rfl, Below.refl _ _⟩
  case round =>
    obtain ⟨i, hi, rfl, hbl⟩ := hrel
    have hB := BK.out.t.bk.below hbl
    have x4 : wr.cell? ⟨q, 0, none⟩ = some (.slice lA n lc) := hB.cell _
    have x5 : wr.cell? ⟨q, 2, none⟩ = some (.slice sA n sc) := hB.cell _
    by_cases hlt : i < n
    · have g1 : (i : Int) < (n : Int) := by omega
      obtain ⟨lb, lo, rfl, y0⟩ := (RL.out.below hbl).at i (by omega)
      obtain ⟨mb, mo, rfl, y1⟩ := (RM.out.below hbl).at i (by omega)
      have hl := List.getElem?_eq_getElem (l := Ls) (i := i) (by omega)
      have hr1 := BK.out.rw i _ _ (List.getElem?_eq_getElem (by omega)) hl
      have hr2 := BK.out.wr i _ _ (List.getElem?_eq_getElem (by omega)) hl
      generalize (Ls[i]'(by omega)) = l at *
      obtain ⟨A, a, e1, _, r1⟩ := own_rd hr1.1
      obtain ⟨A', a', e2, _, r2⟩ := own_rd hr2
      rw [e1] at y0
      rw [e2] at y1
      have hle := hr1.2
      have ea := addr_add lb lo i
      have eb := addr_add mb mo i
      have x4' : wr.drew.cell? ⟨q, 0, none⟩ = some (.slice (some ⟨lb, lo, none⟩) n lc) := x4
      have x5' : wr.drew.cell? ⟨q, 2, none⟩ = some (.slice (some ⟨mb, mo, none⟩) n sc) := x5
      have y0' : wr.drew.cell? ⟨lb, lo + i, none⟩ = some (.slice A l.length a) := y0
      have y1' : wr.drew.cell? ⟨mb, mo + i, none⟩ = some (.slice A' l.length a') := y1
      have EQ := Lib.hid (fun w' (hb : Below w.heap.size w w') => eqBytes_any A A' l.length l.length a a' l l rfl rfl (by omega) w' (r1.below hb) (r2.below hb))
      rw [decide_eq_true (rfl : l = l)] at EQ
      clear e1 e2 r1 r2 hB hr1 hr2 hl
      go_wp2
      go_region_law ((try go_simp); go_at_call 19; refine (EQ.out _ hbl.drew).mono ?_; rintro e w4 ⟨rfl, hb4⟩)
      all_goals go_wp2
      all_goals (go_roundw; (case rel => exact ⟨i + 1, by omega, by go_num, bthen hbl.drew hb4⟩); (case measure => simp [intOf]; omega))
    · have g1 : ¬ (i : Int) < (n : Int) := by omega
      clear hB
      go_wp2
      go_returns
      exact ⟨rfl, hbl⟩
end Go.Proofs.Ytobklhnechbpaaa
