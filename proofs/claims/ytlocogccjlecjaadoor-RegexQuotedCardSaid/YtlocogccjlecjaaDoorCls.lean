import Derived.Test.YtlocogccjlecjaaDoorEq84
import Derived.Deep.CutRange
namespace Go.Proofs.YtlocogccjlecjaaDoor
open Go.RowKit
/-- where the parser stands -/
def atOf (p : Nat) (w : World) : Nat := match w.cell? ⟨p, 1, none⟩ with | some (.int _ z) => z.toNat | _ => 0
theorem Prs.at {w : World} {p i : Nat} {s : ByteArray} (h : Prs w p s i) : atOf p w = i := by
  unfold atOf
  rw [Blk.cell h 1]
  simp
theorem Prs.ne0 {w : World} {p i : Nat} {s : ByteArray} (h : Prs w p s i) (hT : Tab w) : p ≠ 0 := by
  rintro rfl
  have h1 := hT 0 (by decide)
  rw [Blk.cell h 0] at h1
  cases h1
theorem escF_lt {s : ByteArray} {i N j : Nat} {o : Bool} (h : escF s i = some (N, o, j)) : i < j := by
  unfold escF at h
  repeat' (first | (split at h) | (cases h; omega) | (cases h))
theorem innF_lt {s : ByteArray} {i N j : Nat} {o : Bool} (h : innF s i = some (N, o, j)) : i < j := by
  unfold innF at h
  split at h
  · cases h
  · split at h
    · exact escF_lt h
    · cases h; omega
def mxN (A C k j : Nat) : Nat := if j < k then wd C j else wd A j
def mxC (A C k : Nat) : Array Value := #[.int .u64 (mxN A C k 0 : Nat), .int .u64 (mxN A C k 1 : Nat), .int .u64 (mxN A C k 2 : Nat), .int .u64 (mxN A C k 3 : Nat)]
theorem mxC_get (A C k j : Nat) (hj : j < 4) : (mxC A C k)[j]? = some (.int .u64 (mxN A C k j : Nat)) := by
  have : j = 0 ∨ j = 1 ∨ j = 2 ∨ j = 3 := by omega
  rcases this with rfl | rfl | rfl | rfl <;> rfl
theorem mxC_zero (A C : Nat) : mxC A C 0 = setC A := by simp [mxC, mxN, setC]
theorem mxC_four (A C : Nat) : mxC A C 4 = setC C := by simp [mxC, mxN, setC]
theorem mxC_step (A C k : Nat) (hk : k < 4) : (mxC A C k).setIfInBounds k (.int .u64 (wd C k : Nat)) = mxC A C (k + 1) := by
  have : k = 0 ∨ k = 1 ∨ k = 2 ∨ k = 3 := by omega
  rcases this with rfl | rfl | rfl | rfl <;> simp [mxC, mxN]
theorem wd_comp (N k : Nat) (hk : k < 4) : wd (compN N) k = 18446744073709551615 ^^^ wd N k := by
  refine Nat.eq_of_testBit_eq fun j => ?_
  rw [wd_bit, Nat.testBit_xor, wd_bit, show (18446744073709551615 : Nat) = 2 ^ 64 - 1 from rfl, Nat.testBit_two_pow_sub_one]
  unfold compN fullN
  rw [Nat.testBit_xor, spanN_bit]
  by_cases hj : j < 64
  · rw [decide_eq_true (show 0 ≤ 64 * k + j by omega), decide_eq_true (show 64 * k + j ≤ 255 by omega), decide_eq_true hj]
    simp
  · simp [hj]
theorem spanN_lt (a b : Nat) (hb : b < 256) : spanN a b < 2 ^ 256 := Nat.lt_pow_two_of_testBit _ (fun j hj => by rw [spanN_bit, decide_eq_false (show ¬ j ≤ b by omega)]; simp)
theorem compN_lt {N : Nat} (h : N < 2 ^ 256) : compN N < 2 ^ 256 := Nat.xor_lt_two_pow (spanN_lt 0 255 (by decide)) h
theorem wordN_lt : wordN < 2 ^ 256 := Nat.or_lt_two_pow (Nat.or_lt_two_pow (spanN_lt _ _ (by decide)) (spanN_lt _ _ (by decide))) (Nat.or_lt_two_pow (spanN_lt _ _ (by decide)) (spanN_lt _ _ (by decide)))
theorem spaceN_lt : spaceN < 2 ^ 256 := Nat.or_lt_two_pow (Nat.or_lt_two_pow (spanN_lt _ _ (by decide)) (spanN_lt _ _ (by decide))) (spanN_lt _ _ (by decide))
theorem escF_small {s : ByteArray} {i N j : Nat} {o : Bool} (h : escF s i = some (N, o, j)) : N < 2 ^ 256 := by
  unfold escF at h
  split at h
  · cases h
  split at h
  · cases h; exact spanN_lt _ _ (by decide)
  split at h
  · cases h; exact spanN_lt _ _ (by decide)
  split at h
  · cases h; exact spanN_lt _ _ (by decide)
  split at h
  · cases h; exact spanN_lt _ _ (by decide)
  split at h
  · cases h; exact wordN_lt
  split at h
  · cases h; exact spaceN_lt
  split at h
  · split at h
    · cases h
    · rename_i hn
      cases h
      have h1 : ¬ hexF (bt s (i + 2)) < 0 := fun e => hn (.inr (.inl e))
      have h2 : ¬ hexF (bt s (i + 3)) < 0 := fun e => hn (.inr (.inr e))
      obtain ⟨u, hu, hu16⟩ := hexF_nat h1
      obtain ⟨v, hv, hv16⟩ := hexF_nat h2
      rw [hu, hv]
      exact spanN_lt _ _ (by simp; omega)
  split at h
  · cases h; exact spanN_lt _ _ (bt_lt _ _)
  · cases h
theorem innF_small {s : ByteArray} {i N j : Nat} {o : Bool} (h : innF s i = some (N, o, j)) : N < 2 ^ 256 := by
  unfold innF at h
  split at h
  · cases h
  · split at h
    · exact escF_small h
    · cases h; exact spanN_lt _ _ (bt_lt _ _)
theorem nle_lt (a b : Nat) : Value.bool (decide (b < a)) = Value.bool (!(true && (true && decide (a ≤ b)))) := by
  by_cases h : a ≤ b
  · rw [decide_eq_true h, decide_eq_false (by omega)]; rfl
  · rw [decide_eq_false h, decide_eq_true (by omega)]; rfl
/-- what a class reads -/
def ClsPost (s : ByteArray) (p i : Nat) (pl : Int) (w : World) (e : Ending) (w' : World) : Prop :=
  Kp (fun z => z = p) w w' ∧ ∃ r, Cls s i r ∧ match r with
  | none => e = Fault pl
  | some (N, j) => e = .returned (setV N) ∧ Prs w' p s j
set_option maxRecDepth 100000 in
set_option maxHeartbeats 8000000 in
/-- class -/
theorem class_any (s : ByteArray) (p i : Nat) (pl : Int) (w : World) (hp : Prs w p s i) (hs : s.size ≤ 64) (hi : i ≤ s.size) (hT : Tab w) :
    Calls Tryd.prog 62 #[.pointer (some ⟨p, 0, none⟩), .int .i64 pl] w fun e w' => ClsPost s p i pl w e w' := by
  have hp0 := hp.ne0 hT
  have h0 : Below w.heap.size w (w.alloc (.cells (setC 0) 84)) := by go_grown
  have q4 := Blk.new w (setC 0) 84
  have e0 : setC 0 = #[.int .u64 0, .int .u64 0, .int .u64 0, .int .u64 0] := by simp [setC, wd_zero]
  have hP : Prs (w.alloc (.cells (setC 0) 84)) p s i := Blk.below hp h0
  have hpw : p < w.heap.size := Blk.lt hp
  have hk : Kp (fun z => z = p) w (w.alloc (.cells (setC 0) 84)) := Kp.of_below h0
  rw [e0] at h0 hP hk q4
  have E0 := Lib.hid e0
  go_enter Tryd.func62, Tryd.ntmps62
  go_wp2_with fail
  generalize w.alloc (.cells #[.int .u64 0, .int .u64 0, .int .u64 0, .int .u64 0] 84) = w1 at *
  rw [← e0] at q4
  clear e0 h0 hp
  refine (next_any s p i w1 hP).mono ?_
  rintro e w2 ⟨rfl, hb3⟩
  replace q4 := q4.below hb3
  replace hP := Blk.below hP hb3
  replace hk := hk.below hb3
  clear hb3
  obtain ⟨b, hb⟩ : ∃ b, b = (if i < s.size then bt s i else 0) := ⟨_, rfl⟩
  rw [← hb]
  obtain ⟨nb, hnb⟩ : ∃ nb, nb = caret s i := ⟨_, rfl⟩
  have hcb : ((b : Int) == 94) = nb := by
    rw [hnb]
    unfold caret
    by_cases h1 : i < s.size
    · rw [hb, if_pos h1]
      by_cases h2 : bt s i = 94
      · rw [h2, decide_eq_true ⟨h1, rfl⟩]; rfl
      · rw [show (((bt s i : Nat) : Int) == 94) = false from ne_lit h2, decide_eq_false (fun h => h2 h.2)]
    · rw [hb, if_neg h1, decide_eq_false (fun h => h1 h.1)]; rfl
  have HNB := Lib.hid hnb
  have hi65 : i ≤ 64 := by omega
  have hci : nb = true → i < s.size := fun h => by
    rw [hnb] at h
    exact (of_decide_eq_true h).1
  clear hb hnb
  obtain ⟨i0, hi0⟩ : ∃ i0, i0 = if nb then i + 1 else i := ⟨_, rfl⟩
  have y1 : w2.cell? ⟨p, 1, none⟩ = some (.int .i64 (i : Int)) := Blk.cell hP 1
  have f1 := Blk.frozen hP 1
  go_upto_if 26 with fail
  go_cut [5, 6] (fun _ _ wx => Prs wx p s i0 ∧ Blk wx w.heap.size (setC 0) 84 ∧ Kp (fun z => z = p) w wx)
  case first =>
    cases nb with
    | true =>
      go_wp2_with fail
      have hP2 : Prs (w2.setCell ⟨p, 1, none⟩ (.int .i64 ((i : Int) + 1))) p s (i + 1) := Blk.set hP 1 (.int .i64 ((i : Int) + 1))
      go_meet
      exact ⟨by rw [hi0]; exact hP2, Blk.other q4 _ _ (by show w.heap.size ≠ p; omega), hk.set p 1 _ (fun _ => rfl)⟩
    | false =>
      go_wp2_with fail
      go_meet
      exact ⟨by rw [hi0]; exact hP, q4, hk⟩
  case rest =>
  clear q4 hP hk y1 f1 hcb
  obtain ⟨hP, q4, hk⟩ := hcut
  obtain ⟨w3, rfl⟩ : ∃ u : World, u = wc := ⟨_, rfl⟩
  have hX := q4.lt
  have h8 : Below w3.heap.size w3 (w3.alloc (.cells (setC 0) 84)) := by go_grown
  have q8 := Blk.new w3 (setC 0) 84
  replace q4 := q4.below h8
  replace hP := Blk.below hP h8
  replace hk := hk.below h8
  rw [E0.out] at h8 q8 q4 hP hk
  go_wp2_with fail
  generalize w3.alloc (.cells #[.int .u64 0, .int .u64 0, .int .u64 0, .int .u64 0] 84) = w4 at *
  rw [← E0.out] at q8 q4
  generalize w3.heap.size = X at *
  have BAD := Lib.hid (show ClsL s i0 true 0 none → Cls s i none from fun h => Cls.bad (by rw [← HNB.out, ← hi0]; exact h))
  have EMP := Lib.hid (show ∀ all e, ClsL s i0 true 0 (some (all, e)) → (if nb then compN all else all) = 0 → Cls s i none from fun all e h h0 => Cls.empty (by rw [← HNB.out, ← hi0]; exact h) (by rw [← HNB.out]; exact h0))
  have OKC := Lib.hid (show ∀ all e, ClsL s i0 true 0 (some (all, e)) → (if nb then compN all else all) ≠ 0 → Cls s i (some (if nb then compN all else all, e + 1)) from fun all e h h0 => by
    have := Cls.ok (s := s) (i := i) (by rw [← HNB.out, ← hi0]; exact h) (by rw [← HNB.out]; exact h0)
    rw [← HNB.out] at this
    exact this)
  have START : ∀ r, ClsL s i0 true 0 r → ClsL s i0 true 0 r := fun r h => h
  have hX0 : 0 < X := by omega
  go_loopw [9, 10, 11, 12, 13, 14, 15, 16, 17] (fun fv _ _ _ _ _ _ _ _ wr => ∃ (f : Bool) (at' all : Nat), fv = .bool f ∧ Prs wr p s at' ∧ Blk wr w.heap.size (setC 0) 84 ∧ Blk wr X (setC all) 84 ∧ all < 2 ^ 256 ∧ Kp (fun z => z = p) w wr ∧ (∀ r, ClsL s at' f all r → ClsL s i0 true 0 r)) (fun _ _ _ _ _ _ _ _ _ wr => s.size + 1 - atOf p wr)
  case atStart => exact ⟨true, i0, 0, rfl, hP, q4, q8, Nat.two_pow_pos 256, hk, START⟩
  case round =>
    clear hP q4 q8 hk START
    obtain ⟨f, k, all, rfl, hP, q4, q8, hal, hk, hrel⟩ := hrel
    have HAL := Lib.hid hal
    clear hal
    have HM := Lib.hid hP.at
    have REL := Lib.hid hrel
    clear hrel
    go_wp2_with fail
    refine (next_any s p k wr hP).mono ?_
    rintro e w5 ⟨rfl, hb3⟩
    replace q4 := q4.below hb3
    replace q8 := q8.below hb3
    replace hP := Blk.below hP hb3
    replace hk := hk.below hb3
    clear hb3
    by_cases hks : s.size ≤ k
    · have R1 := Lib.hid (REL.out none (.eof hks))
      rw [if_neg (by omega), decide_eq_false (by omega)]
      clear REL
      go_wp2_with fail
      refine (fail_any _ _).mono ?_
      rintro e w6 ⟨rfl, rfl⟩
      go_wp2
      exact ⟨rfl, hk, none, BAD.out R1.out, rfl⟩
    · rw [if_pos (by omega), decide_eq_true (by omega)]
      have hkl : k < s.size := by omega
      clear hks
      obtain ⟨c, hc⟩ : ∃ c, c = bt s k := ⟨_, rfl⟩
      rw [← hc]
      have HC := Lib.hid hc
      clear hc
      by_cases h93 : c = 93
      · cases f with
        | true =>
          have R1 := Lib.hid (REL.out none (.empty hkl (by rw [← HC.out]; exact h93)))
          clear REL
          subst h93
          go_wp2_with fail
          refine (fail_any _ _).mono ?_
          rintro e w6 ⟨rfl, rfl⟩
          go_wp2
          exact ⟨rfl, hk, none, BAD.out R1.out, rfl⟩
        | false =>
          have R1 := Lib.hid (REL.out (some (all, k)) (.done hkl (by rw [← HC.out]; exact h93)))
          clear REL
          subst h93
          have y1 : w5.cell? ⟨p, 1, none⟩ = some (.int .i64 (k : Int)) := Blk.cell hP 1
          have f1 := Blk.frozen hP 1
          have hk64 : k < 64 := by omega
          go_upto_region 22 with fail
          have hXp : X ≠ p := fun e => by
            have h1 : w5.heap[X]? = some (.cells (setC all) 84 (0, 0)) := q8
            have h2 : w5.heap[p]? = some (.cells _ 115 (0, 0)) := hP
            rw [e, h2] at h1
            injection h1 with h1
            injection h1 with _ h1
            cases h1
          have hP2 : Prs (w5.setCell ⟨p, 1, none⟩ (.int .i64 ((k : Int) + 1))) p s (k + 1) := Blk.set hP 1 (.int .i64 ((k : Int) + 1))
          have q42 : Blk (w5.setCell ⟨p, 1, none⟩ (.int .i64 ((k : Int) + 1))) w.heap.size (setC 0) 84 := Blk.other q4 _ _ (by show w.heap.size ≠ p; omega)
          have q82 : Blk (w5.setCell ⟨p, 1, none⟩ (.int .i64 ((k : Int) + 1))) X (setC all) 84 := Blk.other q8 _ _ hXp
          have hk2 : Kp (fun z => z = p) w (w5.setCell ⟨p, 1, none⟩ (.int .i64 ((k : Int) + 1))) := hk.set p 1 _ (fun _ => rfl)
          generalize w5.setCell ⟨p, 1, none⟩ (.int .i64 ((k : Int) + 1)) = w6 at *
          clear hP q4 q8 hk y1 f1
          obtain ⟨N2, hN2⟩ : ∃ N2, N2 = if nb then compN all else all := ⟨_, rfl⟩
          have HN2 := Lib.hid hN2
          have hN2l : N2 < 2 ^ 256 := by
            rw [hN2]
            split
            · exact compN_lt HAL.out
            · exact HAL.out
          have HNL := Lib.hid hN2l
          clear hN2 hN2l
          go_upto_if 108 with fail
          go_cut [18] (fun _ wx => Prs wx p s (k + 1) ∧ Blk wx w.heap.size (setC 0) 84 ∧ Blk wx X (setC N2) 84 ∧ Kp (fun z => z = p) w wx)
          case first =>
            cases nb with
            | false =>
              go_wp2_with fail
              go_meet
              exact ⟨hP2, q42, by rw [HN2.out]; exact q82, hk2⟩
            | true =>
              go_wp2_with fail
              go_loopw [18, 109] (fun _ iv wx => ∃ q : Nat, q ≤ 4 ∧ iv = .int .i64 (q : Int) ∧ Prs wx p s (k + 1) ∧ Blk wx w.heap.size (setC 0) 84 ∧ Blk wx X (mxC all (compN all) q) 84 ∧ Kp (fun z => z = p) w wx) (fun _ iv _ => 4 - (intOf iv).toNat)
              case atStart => exact ⟨0, by omega, rfl, hP2, q42, by rw [mxC_zero]; exact q82, hk2⟩
              case round =>
                clear hP2 q42 q82 hk2
                obtain ⟨q, hq, rfl, hP, q4, q8, hk⟩ := hrel
                by_cases hlt : q < 4
                · have hqi : (q : Int) < 4 := by omega
                  have y : wr.cell? ⟨X, q, none⟩ = some (.int .u64 (wd all q : Nat)) := by rw [q8.cell, mxC_get _ _ _ _ hlt]; simp [mxN]
                  have f := q8.frozen q
                  have eX : (⟨X, 0, none⟩ : Addr).add q = ⟨X, q, none⟩ := by simpa using addr_add X 0 q
                  have hx : bits BinOp.xor IntKind.u64 (if IntKind.u64.signed = true then -1 else IntKind.u64.max) ((wd all q : Nat) : Int) = ((wd (compN all) q : Nat) : Int) := by
                    rw [show (if IntKind.u64.signed = true then (-1 : Int) else IntKind.u64.max) = ((18446744073709551615 : Nat) : Int) by decide, bits_xor_u64_nat _ _ (by decide) (wd_lt _ _), wd_comp _ _ hlt]
                  have q8n := q8.set q (.int .u64 (wd (compN all) q : Nat))
                  rw [mxC_step _ _ _ hlt] at q8n
                  have PP := Lib.hid (And.intro (show Prs (wr.setCell ⟨X, q, none⟩ (.int .u64 (wd (compN all) q : Nat))) p s (k + 1) from Blk.other hP _ _ (fun e => hXp e.symm)) (And.intro (q4.other ⟨X, q, none⟩ (.int .u64 (wd (compN all) q : Nat)) (by show w.heap.size ≠ X; omega)) (And.intro q8n (hk.set X q (.int .u64 (wd (compN all) q : Nat)) (fun h => absurd h (by omega))))))
                  have HQ := Lib.hid (show q + 1 ≤ 4 by omega)
                  clear hP q4 q8 hk q8n hq
                  go_wp2
                  exact ⟨⟨q + 1, HQ.out, by go_num, PP.out.1, PP.out.2.1, PP.out.2.2.1, PP.out.2.2.2⟩, by simp [intOf]; have := HQ.out; omega⟩
                · obtain rfl : q = 4 := by omega
                  rw [mxC_four] at q8
                  go_wp2
                  go_meet
                  exact ⟨hP, q4, by rw [HN2.out]; exact q8, hk⟩
          case rest =>
          clear hP2 q42 q82 hk2
          obtain ⟨hP, q4, q8, hk⟩ := hcut
          obtain ⟨w7, rfl⟩ : ∃ u : World, u = wc := ⟨_, rfl⟩
          have y0 : w7.cell? ⟨X, 0, none⟩ = some (.int .u64 (wd N2 0 : Nat)) := q8.cell 0
          have y1 : w7.cell? ⟨X, 1, none⟩ = some (.int .u64 (wd N2 1 : Nat)) := q8.cell 1
          have y2 : w7.cell? ⟨X, 2, none⟩ = some (.int .u64 (wd N2 2 : Nat)) := q8.cell 2
          have y3 : w7.cell? ⟨X, 3, none⟩ = some (.int .u64 (wd N2 3 : Nat)) := q8.cell 3
          have e84 := eq84 (wd N2 0 : Nat) (wd N2 1 : Nat) (wd N2 2 : Nat) (wd N2 3 : Nat) 0 0 0 0
          rw [set_zero HNL.out] at e84
          by_cases hz : N2 = 0
          · rw [decide_eq_true hz] at e84
            have Z0 := Lib.hid hz
            clear hz
            go_wp2_with fail
            refine (fail_any _ _).mono ?_
            rintro e w8 ⟨rfl, rfl⟩
            go_wp2
            exact ⟨rfl, hk, none, EMP.out all k R1.out (by rw [← HN2.out]; exact Z0.out), rfl⟩
          · rw [decide_eq_false hz] at e84
            have Z0 := Lib.hid hz
            clear hz
            have z0 : w7.cell? ⟨w.heap.size, 0, none⟩ = some (.int .u64 (wd 0 0 : Nat)) := q4.cell 0
            have g0 := q4.frozen 0
            have z1 : w7.cell? ⟨w.heap.size, 1, none⟩ = some (.int .u64 (wd 0 1 : Nat)) := q4.cell 1
            have g1 := q4.frozen 1
            have z2 : w7.cell? ⟨w.heap.size, 2, none⟩ = some (.int .u64 (wd 0 2 : Nat)) := q4.cell 2
            have g2 := q4.frozen 2
            have z3 : w7.cell? ⟨w.heap.size, 3, none⟩ = some (.int .u64 (wd 0 3 : Nat)) := q4.cell 3
            have g3 := q4.frozen 3
            have FF := Lib.hid (fin4 hk rfl q4 hP N2)
            clear q4 hk hP
            go_wp2
            exact bodyPost_ret (results_cell_row rfl _ _ w.heap.size 84 (setC N2) (0, 0) _ rfl FF.out.1 Tryd.underlying84 rfl (by kernel_rfl)) rfl ⟨FF.out.2.1, some (N2, k + 1), by
              have := OKC.out all k R1.out (by rw [← HN2.out]; exact Z0.out)
              rw [← HN2.out] at this
              exact this, rfl, FF.out.2.2⟩
      · have hc93 : ((c : Int) == 93) = false := ne_lit h93
        have NC := Lib.hid (show bt s k ≠ 93 by rw [← HC.out]; exact h93)
        clear h93
        go_wp2_with fail
        refine (inner_any s p k pl _ hP hs).mono ?_
        rintro e w6 ⟨hk6, hm⟩
        have hXp : X ≠ p := fun e => by
          have h1 : w5.heap[X]? = some (.cells (setC all) 84 (0, 0)) := q8
          have h2 : w5.heap[p]? = some (.cells _ 115 (0, 0)) := hP
          rw [e, h2] at h1
          injection h1 with h1
          injection h1 with _ h1
          cases h1
        cases hq : innF s k with
        | none =>
          rw [hq] at hm
          simp only at hm
          subst hm
          have R1 := Lib.hid (REL.out none (.bad hkl NC.out hq))
          clear hq REL
          unfold Fault
          go_wp2
          exact ⟨rfl, hk.trans hk6, none, BAD.out R1.out, rfl⟩
        | some y =>
          obtain ⟨N, o, j⟩ := y
          rw [hq] at hm
          obtain ⟨rfl, hP6⟩ := hm
          have hkj := innF_lt hq
          have hNl := Lib.hid (innF_small hq)
          have HQ := Lib.hid hq
          clear hq
          replace q4 := q4.kp hk6 (by omega)
          replace q8 := q8.kp hk6 hXp
          replace hk := hk.trans hk6
          clear hP hk6
          have hP := hP6
          clear hP6
          obtain ⟨X12, hX12⟩ : ∃ X12, X12 = w6.heap.size := ⟨_, rfl⟩
          have hXX : X < X12 := by rw [hX12]; exact q8.lt
          have h12 : Below w6.heap.size w6 (w6.alloc (.cells (setC N) 84)) := by go_grown
          have q12 := Blk.new w6 (setC N) 84
          rw [← hX12] at q12
          have hwX : w.heap.size ≤ X12 := by omega
          replace q4 := q4.below h12
          replace q8 := q8.below h12
          replace hP := Blk.below hP h12
          replace hk := hk.below h12
          clear h12
          rw [setV_eq]
          go_wp2_with fail
          rw [← hX12]
          have ealloc : w6.alloc (.cells #[.int .u64 (wd N 0 : Nat), .int .u64 (wd N 1 : Nat), .int .u64 (wd N 2 : Nat), .int .u64 (wd N 3 : Nat)] 84) = w6.alloc (.cells (setC N) 84) := rfl
          rw [ealloc]
          clear ealloc
          generalize w6.alloc (.cells (setC N) 84) = w7 at *
          clear hX12
          refine (next_any s p j w7 hP).mono ?_
          rintro e w8 ⟨rfl, hb3⟩
          replace q4 := q4.below hb3
          replace q8 := q8.below hb3
          replace q12 := q12.below hb3
          replace hP := Blk.below hP hb3
          replace hk := hk.below hb3
          clear hb3
          obtain ⟨b2, hb2⟩ : ∃ b2, b2 = (if j < s.size then bt s j else 0) := ⟨_, rfl⟩
          rw [← hb2]
          -- the rest of a round: the set is joined to what there is
          by_cases h45 : b2 = 45
          · have hd : j < s.size ∧ bt s j = 45 := by
              rw [hb2] at h45
              split at h45
              · exact ⟨‹_›, h45⟩
              · cases h45
            have HD := Lib.hid hd
            have hj64 : j < 64 := by have := hd.1; omega
            rw [h45, decide_eq_true hd.1]
            clear hb2 h45 hd
            have y1 : w8.cell? ⟨p, 1, none⟩ = some (.int .i64 (j : Int)) := Blk.cell hP 1
            have f1 := Blk.frozen hP 1
            go_wp2_with fail
            have hP2 : Prs (w8.setCell ⟨p, 1, none⟩ (.int .i64 ((j : Int) + 1))) p s (j + 1) := Blk.set hP 1 (.int .i64 ((j : Int) + 1))
            have q42 : Blk (w8.setCell ⟨p, 1, none⟩ (.int .i64 ((j : Int) + 1))) w.heap.size (setC 0) 84 := Blk.other q4 _ _ (by show w.heap.size ≠ p; omega)
            have q82 : Blk (w8.setCell ⟨p, 1, none⟩ (.int .i64 ((j : Int) + 1))) X (setC all) 84 := Blk.other q8 _ _ hXp
            have q122 : Blk (w8.setCell ⟨p, 1, none⟩ (.int .i64 ((j : Int) + 1))) X12 (setC N) 84 := Blk.other q12 _ _ (by show X12 ≠ p; omega)
            have hk2 : Kp (fun z => z = p) w (w8.setCell ⟨p, 1, none⟩ (.int .i64 ((j : Int) + 1))) := hk.set p 1 _ (fun _ => rfl)
            generalize w8.setCell ⟨p, 1, none⟩ (.int .i64 ((j : Int) + 1)) = w9 at *
            clear hP q4 q8 q12 hk y1 f1
            refine (inner_any s p (j + 1) pl _ hP2 hs).mono ?_
            rintro e w10 ⟨hk10, hm⟩
            cases hq2 : innF s (j + 1) with
            | none =>
              rw [hq2] at hm
              simp only at hm
              subst hm
              have R1 := Lib.hid (REL.out none (.badEnd hkl NC.out HQ.out HD.out hq2))
              clear hq2 REL
              unfold Fault
              go_wp2
              exact ⟨rfl, hk2.trans hk10, none, BAD.out R1.out, rfl⟩
            | some y =>
              obtain ⟨M, o2, k2⟩ := y
              rw [hq2] at hm
              obtain ⟨rfl, hP⟩ := hm
              have HJ2 := Lib.hid (innF_lt hq2)
              have HQ2 := Lib.hid hq2
              clear hq2
              have q4 := q42.kp hk10 (by omega)
              have q8 := q82.kp hk10 hXp
              have q12 := q122.kp hk10 (show X12 ≠ p by omega)
              have hk := hk2.trans hk10
              clear q42 q82 q122 hP2 hk2 hk10
              obtain ⟨X16, hX16⟩ : ∃ X16, X16 = w10.heap.size := ⟨_, rfl⟩
              have hXX16 : X12 < X16 := by rw [hX16]; exact q12.lt
              have h16 : Below w10.heap.size w10 (w10.alloc (.cells (setC M) 84)) := by go_grown
              have q16 := Blk.new w10 (setC M) 84
              rw [← hX16] at q16
              replace q4 := q4.below h16
              replace q8 := q8.below h16
              replace q12 := q12.below h16
              replace hP := Blk.below hP h16
              replace hk := hk.below h16
              clear h16
              rw [setV_eq]
              go_upto_region 17 with fail
              rw [← hX16]
              have ealloc : w10.alloc (.cells #[.int .u64 (wd M 0 : Nat), .int .u64 (wd M 1 : Nat), .int .u64 (wd M 2 : Nat), .int .u64 (wd M 3 : Nat)] 84) = w10.alloc (.cells (setC M) 84) := rfl
              rw [ealloc]
              clear ealloc
              generalize w10.alloc (.cells (setC M) 84) = w11 at *
              clear hX16
              have TT := Lib.hid (fun W' (hb : Below w11.heap.size w11 W') => hT.kp (hk.below hb) (fun e => hp0 e.symm))
              have C12 := Lib.hid (fun W' (hb : Below w11.heap.size w11 W') => q12.below hb)
              have C16 := Lib.hid (fun W' (hb : Below w11.heap.size w11 W') => q16.below hb)
              go_cut [90] (fun sv wx => sv = .bool (!(o && (o2 && decide (leastN N ≤ leastN M)))) ∧ Below w11.heap.size w11 wx)
              case first =>
                cases o with
                | false =>
                  go_quiet (fail)
                  go_wp2
                  go_meet
                  exact ⟨by simp, bdraw (Below.refl _ _) _⟩
                | true =>
                  cases o2 with
                  | false =>
                    go_quiet (fail)
                    go_wp2
                    go_meet
                    exact ⟨by simp, bdraw (Below.refl _ _) _⟩
                  | true =>
                    have x0 : w11.cell? ⟨X12, 0, none⟩ = some (.int .u64 (wd N 0 : Nat)) := q12.cell 0
                    have u0' : w11.cell? ⟨X16, 0, none⟩ = some (.int .u64 (wd M 0 : Nat)) := q16.cell 0
                    have x1 : w11.cell? ⟨X12, 1, none⟩ = some (.int .u64 (wd N 1 : Nat)) := q12.cell 1
                    have u1' : w11.cell? ⟨X16, 1, none⟩ = some (.int .u64 (wd M 1 : Nat)) := q16.cell 1
                    have x2 : w11.cell? ⟨X12, 2, none⟩ = some (.int .u64 (wd N 2 : Nat)) := q12.cell 2
                    have u2' : w11.cell? ⟨X16, 2, none⟩ = some (.int .u64 (wd M 2 : Nat)) := q16.cell 2
                    have x3 : w11.cell? ⟨X12, 3, none⟩ = some (.int .u64 (wd N 3 : Nat)) := q12.cell 3
                    have u3' : w11.cell? ⟨X16, 3, none⟩ = some (.int .u64 (wd M 3 : Nat)) := q16.cell 3
                    go_region_law (first
                      | ((fail_if_success (have := HQ1)); rw [if_pos (by kernel_rfl)]; (try go_simp); go_at_call 71; refine (least_any _ _ (TT.out _ (Below.drew (Below.refl _ _)))).mono ?_; rintro e wq ⟨rfl, hbq⟩; have HQ1 := bthen (Below.drew (Below.refl w11.heap.size w11)) hbq; have a0 : wq.cell? ⟨X12, 0, none⟩ = some (.int .u64 (wd N 0 : Nat)) := (C12.out wq HQ1).cell 0; have b0 : wq.cell? ⟨X16, 0, none⟩ = some (.int .u64 (wd M 0 : Nat)) := (C16.out wq HQ1).cell 0; have a1 : wq.cell? ⟨X12, 1, none⟩ = some (.int .u64 (wd N 1 : Nat)) := (C12.out wq HQ1).cell 1; have b1 : wq.cell? ⟨X16, 1, none⟩ = some (.int .u64 (wd M 1 : Nat)) := (C16.out wq HQ1).cell 1; have a2 : wq.cell? ⟨X12, 2, none⟩ = some (.int .u64 (wd N 2 : Nat)) := (C12.out wq HQ1).cell 2; have b2 : wq.cell? ⟨X16, 2, none⟩ = some (.int .u64 (wd M 2 : Nat)) := (C16.out wq HQ1).cell 2; have a3 : wq.cell? ⟨X12, 3, none⟩ = some (.int .u64 (wd N 3 : Nat)) := (C12.out wq HQ1).cell 3; have b3 : wq.cell? ⟨X16, 3, none⟩ = some (.int .u64 (wd M 3 : Nat)) := (C16.out wq HQ1).cell 3)
                      | (rw [if_pos (by kernel_rfl)]; (try go_simp); go_at_call 71; refine (least_any _ _ (TT.out _ HQ1)).mono ?_; rintro e wr2 ⟨rfl, hbr⟩))
                    all_goals
                      go_wp2
                      go_meet
                      exact ⟨nle_lt _ _, bthen HQ1 hbr⟩
              case rest =>
              obtain ⟨rfl, hb3⟩ := hcut
              obtain ⟨w12, rfl⟩ : ∃ u : World, u = wc := ⟨_, rfl⟩
              clear TT C12 C16
              replace q4 := q4.below hb3
              replace q8 := q8.below hb3
              replace q12 := q12.below hb3
              replace q16 := q16.below hb3
              replace hP := Blk.below hP hb3
              replace hk := hk.below hb3
              clear hb3
              obtain ⟨good, hgood⟩ : ∃ good, good = (o && (o2 && decide (leastN N ≤ leastN M))) := ⟨_, rfl⟩
              rw [← hgood]
              cases good with
              | false =>
                have hn : ¬ (o = true ∧ o2 = true ∧ leastN N ≤ leastN M) := by
                  rintro ⟨h1, h2, h3⟩
                  rw [h1, h2, decide_eq_true h3] at hgood
                  cases hgood
                have R1 := Lib.hid (REL.out none (.badSpan hkl NC.out HQ.out HD.out HQ2.out hn))
                clear hn hgood REL
                go_wp2_with fail
                refine (fail_any _ _).mono ?_
                rintro e w13 ⟨rfl, rfl⟩
                go_wp2
                exact ⟨rfl, hk, none, BAD.out R1.out, rfl⟩
              | true =>
                have hn : o = true ∧ o2 = true ∧ leastN N ≤ leastN M := by
                  have h1 := hgood.symm
                  simp only [Bool.and_eq_true, decide_eq_true_eq] at h1
                  exact h1
                have R1 := Lib.hid (fun r (h : ClsL s k2 false (all ||| spanN (leastN N) (leastN M)) r) => REL.out r (.span hkl NC.out HQ.out HD.out HQ2.out hn h))
                clear hn hgood REL
                obtain ⟨w11, rfl⟩ : ∃ u : World, u = w12 := ⟨_, rfl⟩
                have TT := Lib.hid (fun W' (hb : Below w11.heap.size w11 W') => hT.kp (hk.below hb) (fun e => hp0 e.symm))
                have C12 := Lib.hid (fun W' (hb : Below w11.heap.size w11 W') => q12.below hb)
                have C16 := Lib.hid (fun W' (hb : Below w11.heap.size w11 W') => q16.below hb)
                obtain ⟨N3, hN3⟩ : ∃ N3, N3 = spanN (leastN N) (leastN M) := ⟨_, rfl⟩
                rw [← hN3] at R1
                have hN3l := Lib.hid (show N3 < 2 ^ 256 by rw [hN3]; exact spanN_lt _ _ (leastN_lt M))
                have HN3 := Lib.hid hN3
                clear hN3
                have x0 : w11.cell? ⟨X12, 0, none⟩ = some (.int .u64 (wd N 0 : Nat)) := q12.cell 0
                have u0' : w11.cell? ⟨X16, 0, none⟩ = some (.int .u64 (wd M 0 : Nat)) := q16.cell 0
                have x1 : w11.cell? ⟨X12, 1, none⟩ = some (.int .u64 (wd N 1 : Nat)) := q12.cell 1
                have u1' : w11.cell? ⟨X16, 1, none⟩ = some (.int .u64 (wd M 1 : Nat)) := q16.cell 1
                have x2 : w11.cell? ⟨X12, 2, none⟩ = some (.int .u64 (wd N 2 : Nat)) := q12.cell 2
                have u2' : w11.cell? ⟨X16, 2, none⟩ = some (.int .u64 (wd M 2 : Nat)) := q16.cell 2
                have x3 : w11.cell? ⟨X12, 3, none⟩ = some (.int .u64 (wd N 3 : Nat)) := q12.cell 3
                have u3' : w11.cell? ⟨X16, 3, none⟩ = some (.int .u64 (wd M 3 : Nat)) := q16.cell 3
                go_upto_region 19 with fail
                go_cut [14] (fun _ wx => Prs wx p s k2 ∧ Blk wx w.heap.size (setC 0) 84 ∧ Blk wx X (setC all) 84 ∧ Blk wx X12 (setC N3) 84 ∧ Kp (fun z => z = p) w wx)
                case first =>
                  go_region_law (first
                    | ((fail_if_success (have := HQ1)); (try go_simp); go_at_call 71; refine (least_any _ _ (TT.out _ (Below.drew (Below.refl _ _)))).mono ?_; rintro e wq ⟨rfl, hbq⟩; have HQ1 := bthen (Below.drew (Below.refl w11.heap.size w11)) hbq; have a0 : wq.cell? ⟨X12, 0, none⟩ = some (.int .u64 (wd N 0 : Nat)) := (C12.out wq HQ1).cell 0; have b0 : wq.cell? ⟨X16, 0, none⟩ = some (.int .u64 (wd M 0 : Nat)) := (C16.out wq HQ1).cell 0; have a1 : wq.cell? ⟨X12, 1, none⟩ = some (.int .u64 (wd N 1 : Nat)) := (C12.out wq HQ1).cell 1; have b1 : wq.cell? ⟨X16, 1, none⟩ = some (.int .u64 (wd M 1 : Nat)) := (C16.out wq HQ1).cell 1; have a2 : wq.cell? ⟨X12, 2, none⟩ = some (.int .u64 (wd N 2 : Nat)) := (C12.out wq HQ1).cell 2; have b2 : wq.cell? ⟨X16, 2, none⟩ = some (.int .u64 (wd M 2 : Nat)) := (C16.out wq HQ1).cell 2; have a3 : wq.cell? ⟨X12, 3, none⟩ = some (.int .u64 (wd N 3 : Nat)) := (C12.out wq HQ1).cell 3; have b3 : wq.cell? ⟨X16, 3, none⟩ = some (.int .u64 (wd M 3 : Nat)) := (C16.out wq HQ1).cell 3)
                    | ((fail_if_success (have := HQ2b)); (try go_simp); go_at_call 71; refine (least_any _ _ (TT.out _ HQ1)).mono ?_; rintro e wr2 ⟨rfl, hbr⟩; have HQ2b := bthen HQ1 hbr)
                    | ((try go_simp); go_at_call 64; refine (span_any (leastN N) (leastN M) (leastN_lt N) (leastN_lt M) _).mono ?_; rintro e wt ⟨rfl, hbt⟩; rw [← HN3.out, setV_eq]; have HQ3 := bthen HQ2b hbt; have z0 : wt.cell? ⟨X12, 0, none⟩ = some (.int .u64 (wd N 0 : Nat)) := (C12.out wt HQ3).cell 0; have g0 := (C12.out wt HQ3).frozen 0; have z1 : wt.cell? ⟨X12, 1, none⟩ = some (.int .u64 (wd N 1 : Nat)) := (C12.out wt HQ3).cell 1; have g1 := (C12.out wt HQ3).frozen 1; have z2 : wt.cell? ⟨X12, 2, none⟩ = some (.int .u64 (wd N 2 : Nat)) := (C12.out wt HQ3).cell 2; have g2 := (C12.out wt HQ3).frozen 2; have z3 : wt.cell? ⟨X12, 3, none⟩ = some (.int .u64 (wd N 3 : Nat)) := (C12.out wt HQ3).cell 3; have g3 := (C12.out wt HQ3).frozen 3))
                  all_goals
                    have ne1 : w.heap.size ≠ X12 := by omega
                    have ne2 : p ≠ X12 := by omega
                    have ne3 : X ≠ X12 := by omega
                    have q4t := q4.below HQ3
                    have q8t := q8.below HQ3
                    have hPt : Prs wt p s k2 := Blk.below hP HQ3
                    have hkt := hk.below HQ3
                    have q12t := C12.out wt HQ3
                    go_wp2
                    go_meet
                    exact ⟨(((Blk.other hPt _ _ ne2).other _ _ ne2).other _ _ ne2).other _ _ ne2, (((q4t.other _ _ ne1).other _ _ ne1).other _ _ ne1).other _ _ ne1, (((q8t.other _ _ ne3).other _ _ ne3).other _ _ ne3).other _ _ ne3, q12t.set4 N3, hkt.set4 X12 _ _ _ _ (fun h => absurd h (by omega))⟩
                case rest =>
                clear q4 q8 q12 q16 hP hk TT C12 C16 x0 x1 x2 x3 u0' u1' u2' u3'
                obtain ⟨hP, q4, q8, q12, hk⟩ := hcut
                obtain ⟨w13, rfl⟩ : ∃ u : World, u = wc := ⟨_, rfl⟩
                have y0 : w13.cell? ⟨X, 0, none⟩ = some (.int .u64 (wd all 0 : Nat)) := q8.cell 0
                have y1 : w13.cell? ⟨X, 1, none⟩ = some (.int .u64 (wd all 1 : Nat)) := q8.cell 1
                have y2 : w13.cell? ⟨X, 2, none⟩ = some (.int .u64 (wd all 2 : Nat)) := q8.cell 2
                have y3 : w13.cell? ⟨X, 3, none⟩ = some (.int .u64 (wd all 3 : Nat)) := q8.cell 3
                have x0 : w13.cell? ⟨X12, 0, none⟩ = some (.int .u64 (wd N3 0 : Nat)) := q12.cell 0
                have x1 : w13.cell? ⟨X12, 1, none⟩ = some (.int .u64 (wd N3 1 : Nat)) := q12.cell 1
                have x2 : w13.cell? ⟨X12, 2, none⟩ = some (.int .u64 (wd N3 2 : Nat)) := q12.cell 2
                have x3 : w13.cell? ⟨X12, 3, none⟩ = some (.int .u64 (wd N3 3 : Nat)) := q12.cell 3
                go_wp2_with fail
                refine (join_any all N3 _).mono ?_
                rintro e w14 ⟨rfl, hb3⟩
                replace q4 := q4.below hb3
                replace q8 := q8.below hb3
                replace hP := Blk.below hP hb3
                replace hk := hk.below hb3
                clear hb3 y0 y1 y2 y3 x0 x1 x2 x3
                obtain ⟨M2, hM2⟩ : ∃ M2, M2 = all ||| N3 := ⟨_, rfl⟩
                rw [← hM2, setV_eq]
                have hM2l : M2 < 2 ^ 256 := by rw [hM2]; exact Nat.or_lt_two_pow HAL.out hN3l.out
                have HM2 := Lib.hid (And.intro hM2 hM2l)
                clear hM2 hM2l
                have z0 : w14.cell? ⟨X, 0, none⟩ = some (.int .u64 (wd all 0 : Nat)) := q8.cell 0
                have z1 : w14.cell? ⟨X, 1, none⟩ = some (.int .u64 (wd all 1 : Nat)) := q8.cell 1
                have z2 : w14.cell? ⟨X, 2, none⟩ = some (.int .u64 (wd all 2 : Nat)) := q8.cell 2
                have z3 : w14.cell? ⟨X, 3, none⟩ = some (.int .u64 (wd all 3 : Nat)) := q8.cell 3
                have g0 := q8.frozen 0
                have g1 := q8.frozen 1
                have g2 := q8.frozen 2
                have g3 := q8.frozen 3
                have ne1 : w.heap.size ≠ X := by omega
                have ne2 : p ≠ X := fun e => hXp e.symm
                have P4 := Lib.hid (And.intro (((((q4.other ⟨X, 0, none⟩ (.int .u64 (wd M2 0 : Nat)) ne1).other ⟨X, 1, none⟩ (.int .u64 (wd M2 1 : Nat)) ne1).other ⟨X, 2, none⟩ (.int .u64 (wd M2 2 : Nat)) ne1).other ⟨X, 3, none⟩ (.int .u64 (wd M2 3 : Nat)) ne1)) (And.intro (((((Blk.other hP ⟨X, 0, none⟩ (.int .u64 (wd M2 0 : Nat)) ne2).other ⟨X, 1, none⟩ (.int .u64 (wd M2 1 : Nat)) ne2).other ⟨X, 2, none⟩ (.int .u64 (wd M2 2 : Nat)) ne2).other ⟨X, 3, none⟩ (.int .u64 (wd M2 3 : Nat)) ne2)) (And.intro (q8.set4 M2) (hk.set4 X (.int .u64 (wd M2 0 : Nat)) (.int .u64 (wd M2 1 : Nat)) (.int .u64 (wd M2 2 : Nat)) (.int .u64 (wd M2 3 : Nat)) (fun h => absurd h (by omega))))))
                clear q4 q8 hP hk
                go_wp2
                go_roundw
                case rel => exact ⟨false, k2, M2, rfl, P4.out.2.1, P4.out.1, P4.out.2.2.1, HM2.out.2, P4.out.2.2.2, by rw [HM2.out.1]; exact R1.out⟩
                case measure =>
                  have hat : atOf p _ = k2 := Prs.at P4.out.2.1
                  rw [hat, HM.out]
                  have := HJ2.out
                  omega
          · have hbn : ((b2 : Int) == 45) = false := ne_lit h45
            have hd : ¬ (j < s.size ∧ bt s j = 45) := fun h => h45 (by rw [hb2, if_pos h.1]; exact h.2)
            have R1 := Lib.hid (fun r (h : ClsL s j false (all ||| N) r) => REL.out r (.one hkl NC.out HQ.out hd h))
            clear hb2 h45 hd REL
            have y0 : w8.cell? ⟨X, 0, none⟩ = some (.int .u64 (wd all 0 : Nat)) := q8.cell 0
            have y1 : w8.cell? ⟨X, 1, none⟩ = some (.int .u64 (wd all 1 : Nat)) := q8.cell 1
            have y2 : w8.cell? ⟨X, 2, none⟩ = some (.int .u64 (wd all 2 : Nat)) := q8.cell 2
            have y3 : w8.cell? ⟨X, 3, none⟩ = some (.int .u64 (wd all 3 : Nat)) := q8.cell 3
            have x0 : w8.cell? ⟨X12, 0, none⟩ = some (.int .u64 (wd N 0 : Nat)) := q12.cell 0
            have x1 : w8.cell? ⟨X12, 1, none⟩ = some (.int .u64 (wd N 1 : Nat)) := q12.cell 1
            have x2 : w8.cell? ⟨X12, 2, none⟩ = some (.int .u64 (wd N 2 : Nat)) := q12.cell 2
            have x3 : w8.cell? ⟨X12, 3, none⟩ = some (.int .u64 (wd N 3 : Nat)) := q12.cell 3
            go_wp2_with fail
            refine (join_any all N _).mono ?_
            rintro e w9 ⟨rfl, hb3⟩
            replace q4 := q4.below hb3
            replace q8 := q8.below hb3
            replace hP := Blk.below hP hb3
            replace hk := hk.below hb3
            clear hb3 y0 y1 y2 y3 x0 x1 x2 x3
            obtain ⟨M2, hM2⟩ : ∃ M2, M2 = all ||| N := ⟨_, rfl⟩
            rw [← hM2, setV_eq]
            have hM2l : M2 < 2 ^ 256 := by rw [hM2]; exact Nat.or_lt_two_pow HAL.out hNl.out
            have HM2 := Lib.hid (And.intro hM2 hM2l)
            clear hM2 hM2l
            have z0 : w9.cell? ⟨X, 0, none⟩ = some (.int .u64 (wd all 0 : Nat)) := q8.cell 0
            have z1 : w9.cell? ⟨X, 1, none⟩ = some (.int .u64 (wd all 1 : Nat)) := q8.cell 1
            have z2 : w9.cell? ⟨X, 2, none⟩ = some (.int .u64 (wd all 2 : Nat)) := q8.cell 2
            have z3 : w9.cell? ⟨X, 3, none⟩ = some (.int .u64 (wd all 3 : Nat)) := q8.cell 3
            have g0 := q8.frozen 0
            have g1 := q8.frozen 1
            have g2 := q8.frozen 2
            have g3 := q8.frozen 3
            have ne1 : w.heap.size ≠ X := by omega
            have ne2 : p ≠ X := fun e => hXp e.symm
            have P4 := Lib.hid (And.intro (((((q4.other ⟨X, 0, none⟩ (.int .u64 (wd M2 0 : Nat)) ne1).other ⟨X, 1, none⟩ (.int .u64 (wd M2 1 : Nat)) ne1).other ⟨X, 2, none⟩ (.int .u64 (wd M2 2 : Nat)) ne1).other ⟨X, 3, none⟩ (.int .u64 (wd M2 3 : Nat)) ne1)) (And.intro (((((Blk.other hP ⟨X, 0, none⟩ (.int .u64 (wd M2 0 : Nat)) ne2).other ⟨X, 1, none⟩ (.int .u64 (wd M2 1 : Nat)) ne2).other ⟨X, 2, none⟩ (.int .u64 (wd M2 2 : Nat)) ne2).other ⟨X, 3, none⟩ (.int .u64 (wd M2 3 : Nat)) ne2)) (And.intro (q8.set4 M2) (hk.set4 X (.int .u64 (wd M2 0 : Nat)) (.int .u64 (wd M2 1 : Nat)) (.int .u64 (wd M2 2 : Nat)) (.int .u64 (wd M2 3 : Nat)) (fun h => absurd h (by omega))))))
            clear q4 q8 hP hk
            go_wp2
            go_roundw
            case rel => exact ⟨false, j, M2, rfl, P4.out.2.1, P4.out.1, P4.out.2.2.1, HM2.out.2, P4.out.2.2.2, by rw [HM2.out.1]; exact R1.out⟩
            case measure =>
              have hat : atOf p _ = j := Prs.at P4.out.2.1
              rw [hat, HM.out]
              omega
end Go.Proofs.YtlocogccjlecjaaDoor
