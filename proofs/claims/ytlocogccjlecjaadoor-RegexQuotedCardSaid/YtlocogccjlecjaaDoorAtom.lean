import Derived.Test.YtlocogccjlecjaaDoorCls
import Derived.Test.YtlocogccjlecjaaDoorRxT
namespace Go.Proofs.YtlocogccjlecjaaDoor
open Go.RowKit
theorem ClsL_small {s : ByteArray} {i all : Nat} {f : Bool} {r : Option (Nat × Nat)} (h : ClsL s i f all r) : all < 2 ^ 256 → ∀ a e, r = some (a, e) → a < 2 ^ 256 := by
  induction h with
  | done _ _ => intro ha a e he; cases he; exact ha
  | one _ _ hi _ _ ih => exact fun ha => ih (Nat.or_lt_two_pow ha (innF_small hi))
  | span _ _ _ _ _ _ _ ih => exact fun ha => ih (Nat.or_lt_two_pow ha (spanN_lt _ _ (leastN_lt _)))
  | _ => intro _ a e he; cases he
theorem Cls_small {s : ByteArray} {i N j : Nat} (h : Cls s i (some (N, j))) : N < 2 ^ 256 := by
  cases h with
  | ok h h0 =>
    have := ClsL_small h (Nat.two_pow_pos 256) _ _ rfl
    split
    · exact compN_lt this
    · exact this
/-- what the parser reads -/
def GrPost (s : ByteArray) (p : Nat) (ph : Ph) (w : World) (e : Ending) (w' : World) : Prop :=
  Kp (fun z => z = p) w w' ∧ ∃ r, Gr s ph r ∧ match r with
  | .bad pl => e = Fault (pl : Nat)
  | .ok t j => ∃ v, e = .returned v ∧ j ≤ s.size ∧ Prs w' p s j ∧ Tr (fun b => w.heap.size ≤ b) w' v t
set_option maxRecDepth 100000 in
set_option maxHeartbeats 8000000 in
/-- atom -/
theorem atom_any (s : ByteArray) (p i : Nat) (w : World) (hp : Prs w p s i) (hi : i < s.size) (hs : s.size ≤ 64) (hT : Tab w)
    (HE : ∀ w', Prs w' p s (i + 1) → Tab w' → Calls Tryd.prog 41 #[.pointer (some ⟨p, 0, none⟩)] w' fun e w'' => GrPost s p (.ex (i + 1)) w' e w'') :
    Calls Tryd.prog 58 #[.pointer (some ⟨p, 0, none⟩), .int .u8 ((bt s i : Nat) : Int)] w fun e w' => GrPost s p (.atom i) w e w' := by
  have hp0 := hp.ne0 hT
  obtain ⟨b, hb⟩ : ∃ b, b = bt s i := ⟨_, rfl⟩
  have hbl : b < 256 := by rw [hb]; exact bt_lt _ _
  rw [← hb]
  have HB := Lib.hid hb
  clear hb
  have y1 : w.cell? ⟨p, 1, none⟩ = some (.int .i64 (i : Int)) := Blk.cell hp 1
  have y0 : w.cell? ⟨p, 0, none⟩ = some (.string s) := Blk.cell hp 0
  have f1 := Blk.frozen hp 1
  have hi64 : i < 64 := by omega
  have hP1 : Prs (w.setCell ⟨p, 1, none⟩ (.int .i64 ((i : Int) + 1))) p s (i + 1) := Blk.set hp 1 (.int .i64 ((i : Int) + 1))
  have hk1 : Kp (fun z => z = p) w (w.setCell ⟨p, 1, none⟩ (.int .i64 ((i : Int) + 1))) := (Kp.refl _ w).set p 1 _ (fun _ => rfl)
  have hT1 : Tab (w.setCell ⟨p, 1, none⟩ (.int .i64 ((i : Int) + 1))) := hT.kp hk1 (fun e => hp0 e.symm)
  have F1 := Lib.hid (And.intro hP1 (And.intro hk1 hT1))
  clear hP1 hk1 hT1
  go_enter Tryd.func58, Tryd.ntmps58
  by_cases h32 : b < 32
  · have hi32 : (b : Int) < 32 := by omega
    have hodd := Lib.hid (show odd (bt s i) = true from by rw [← HB.out]; exact decide_eq_true (by omega))
    go_wp2_with fail
    refine (fail_any _ _).mono ?_
    rintro e w2 ⟨rfl, rfl⟩
    go_wp2
    exact ⟨rfl, Kp.refl _ _, _, .atOdd hodd.out, rfl⟩
  have hi32 : ¬ (b : Int) < 32 := by omega
  by_cases h126 : 126 < b
  · have hi126 : 126 < (b : Int) := by omega
    have hodd := Lib.hid (show odd (bt s i) = true from by rw [← HB.out]; exact decide_eq_true (by omega))
    go_wp2_with fail
    refine (fail_any _ _).mono ?_
    rintro e w2 ⟨rfl, rfl⟩
    go_wp2
    exact ⟨rfl, Kp.refl _ _, _, .atOdd hodd.out, rfl⟩
  have hi126 : ¬ 126 < (b : Int) := by omega
  by_cases h93 : b = 93
  · subst h93
    have hodd := Lib.hid (show odd (bt s i) = true from by rw [← HB.out]; exact decide_eq_true (by simp))
    go_wp2_with fail
    refine (fail_any _ _).mono ?_
    rintro e w2 ⟨rfl, rfl⟩
    go_wp2
    exact ⟨rfl, Kp.refl _ _, _, .atOdd hodd.out, rfl⟩
  have n93 : ((b : Int) == 93) = false := ne_lit h93
  by_cases h42 : b = 42
  · subst h42
    have hodd := Lib.hid (show odd (bt s i) = true from by rw [← HB.out]; exact decide_eq_true (by simp))
    go_wp2_with fail
    refine (fail_any _ _).mono ?_
    rintro e w2 ⟨rfl, rfl⟩
    go_wp2
    exact ⟨rfl, Kp.refl _ _, _, .atOdd hodd.out, rfl⟩
  have n42 : ((b : Int) == 42) = false := ne_lit h42
  by_cases h43 : b = 43
  · subst h43
    have hodd := Lib.hid (show odd (bt s i) = true from by rw [← HB.out]; exact decide_eq_true (by simp))
    go_wp2_with fail
    refine (fail_any _ _).mono ?_
    rintro e w2 ⟨rfl, rfl⟩
    go_wp2
    exact ⟨rfl, Kp.refl _ _, _, .atOdd hodd.out, rfl⟩
  have n43 : ((b : Int) == 43) = false := ne_lit h43
  by_cases h63 : b = 63
  · subst h63
    have hodd := Lib.hid (show odd (bt s i) = true from by rw [← HB.out]; exact decide_eq_true (by simp))
    go_wp2_with fail
    refine (fail_any _ _).mono ?_
    rintro e w2 ⟨rfl, rfl⟩
    go_wp2
    exact ⟨rfl, Kp.refl _ _, _, .atOdd hodd.out, rfl⟩
  have n63 : ((b : Int) == 63) = false := ne_lit h63
  have hodd := Lib.hid (show odd (bt s i) = false from by rw [← HB.out]; exact decide_eq_false (by omega))
  by_cases h40 : b = 40
  · have EB := Lib.hid (show bt s i = 40 by rw [← HB.out]; exact h40)
    subst h40
    go_wp2_with fail
    generalize w.setCell ⟨p, 1, none⟩ (.int .i64 ((i : Int) + 1)) = w2 at *
    refine (HE w2 F1.out.1 F1.out.2.2).mono ?_
    rintro e w3 ⟨hk3, r, hg, hm⟩
    cases r with
    | bad pl =>
      simp only at hm
      subst hm
      unfold Fault
      have HG := Lib.hid hg
      clear hg
      go_wp2
      exact ⟨rfl, F1.out.2.1.trans hk3, _, .atParBad EB.out HG.out, rfl⟩
    | ok t j =>
      obtain ⟨v, rfl, hj, hP, hTr⟩ := hm
      have HG := Lib.hid hg
      have HTr := Lib.hid hTr
      clear hg hTr
      go_wp2_with fail
      refine (next_any s p j w3 hP).mono ?_
      rintro e w4 ⟨rfl, hb3⟩
      replace hP := Blk.below hP hb3
      have hk4 := (F1.out.2.1.trans hk3).below hb3
      by_cases hjs : s.size ≤ j
      · rw [if_neg (by omega), decide_eq_false (by omega)]
        have y0 : w4.cell? ⟨p, 0, none⟩ = some (.string s) := Blk.cell hP 0
        go_wp2_with fail
        refine (fail_any _ _).mono ?_
        rintro e w5 ⟨rfl, rfl⟩
        go_wp2
        exact ⟨rfl, hk4, _, .atParEnd EB.out HG.out hjs, rfl⟩
      · rw [if_pos (by omega), decide_eq_true (by omega)]
        have hj64 : j < 64 := by omega
        have y1 : w4.cell? ⟨p, 1, none⟩ = some (.int .i64 (j : Int)) := Blk.cell hP 1
        have f1 := Blk.frozen hP 1
        have hP2 : Prs (w4.setCell ⟨p, 1, none⟩ (.int .i64 ((j : Int) + 1))) p s (j + 1) := Blk.set hP 1 (.int .i64 ((j : Int) + 1))
        have hkk : Kp (fun z => z = p) w3 (w4.setCell ⟨p, 1, none⟩ (.int .i64 ((j : Int) + 1))) := (Kp.of_below hb3).set p 1 _ (fun _ => rfl)
        have hpw : p < w.heap.size := Blk.lt hp
        have hTr5 : Tr (fun b => w.heap.size ≤ b) (w4.setCell ⟨p, 1, none⟩ (.int .i64 ((j : Int) + 1))) v t :=
          HTr.out.kp hkk (fun b hb h e => by have := F1.out.2.1.size; omega) (fun b hb h => by have := F1.out.2.1.size; omega)
        have FIN := Lib.hid (And.intro hP2 (And.intro hTr5 (hk4.set p 1 (.int .i64 ((j : Int) + 1)) (fun _ => rfl))))
        clear hP2 hTr5 hkk
        go_wp2
        go_returns
        exact ⟨FIN.out.2.2, _, .atPar EB.out HG.out (by omega), v, rfl, by omega, FIN.out.1, FIN.out.2.1⟩
  have n40 : ((b : Int) == 40) = false := ne_lit h40
  by_cases h91 : b = 91
  · have EB := Lib.hid (show bt s i = 91 by rw [← HB.out]; exact h91)
    subst h91
    go_wp2_with fail
    generalize w.setCell ⟨p, 1, none⟩ (.int .i64 ((i : Int) + 1)) = w2 at *
    refine (class_any s p (i + 1) _ w2 F1.out.1 hs (by omega) F1.out.2.2).mono ?_
    rintro e w3 ⟨hk3, r, hg, hm⟩
    have HG := Lib.hid hg
    clear hg
    cases r with
    | none =>
      simp only at hm
      subst hm
      unfold Fault
      go_wp2
      exact ⟨rfl, F1.out.2.1.trans hk3, _, .atClsBad EB.out HG.out, rfl⟩
    | some y =>
      obtain ⟨M, j⟩ := y
      obtain ⟨rfl, hP⟩ := hm
      rw [setV_eq]
      have hkf := Lib.hid (F1.out.2.1.trans hk3)
      go_wp2
      go_returns
      exact ⟨hkf.out, _, .atCls EB.out HG.out, _, rfl, (Cls_le HG.out).1, hP, .leaf M (Cls_small HG.out) (Cls_le HG.out).2⟩
  have n91 : ((b : Int) == 91) = false := ne_lit h91
  by_cases h92 : b = 92
  · have EB := Lib.hid (show bt s i = 92 by rw [← HB.out]; exact h92)
    subst h92
    clear F1
    go_wp2_with fail
    refine (escape_any s p i _ w hp hi hs).mono ?_
    rintro e w3 ⟨hk3, hm⟩
    cases hq : escF s i with
    | none =>
      rw [hq] at hm
      simp only at hm
      subst hm
      have HQ := Lib.hid hq
      clear hq
      unfold Fault
      go_wp2
      exact ⟨rfl, hk3, _, .atEscBad EB.out HQ.out, rfl⟩
    | some y =>
      obtain ⟨M, o, j⟩ := y
      rw [hq] at hm
      obtain ⟨rfl, hP⟩ := hm
      have HQ := Lib.hid hq
      clear hq
      rw [setV_eq]
      have hb3 : Below w3.heap.size w3 (w3.alloc (.cells (setC M) 84)) := by go_grown
      have q9 := Blk.new w3 (setC M) 84
      have x0 : (w3.alloc (.cells #[.int .u64 (wd M 0 : Nat), .int .u64 (wd M 1 : Nat), .int .u64 (wd M 2 : Nat), .int .u64 (wd M 3 : Nat)] 84)).cell? ⟨w3.heap.size, 0, none⟩ = some (.int .u64 (wd M 0 : Nat)) := q9.cell 0
      have x1 : (w3.alloc (.cells #[.int .u64 (wd M 0 : Nat), .int .u64 (wd M 1 : Nat), .int .u64 (wd M 2 : Nat), .int .u64 (wd M 3 : Nat)] 84)).cell? ⟨w3.heap.size, 1, none⟩ = some (.int .u64 (wd M 1 : Nat)) := q9.cell 1
      have x2 : (w3.alloc (.cells #[.int .u64 (wd M 0 : Nat), .int .u64 (wd M 1 : Nat), .int .u64 (wd M 2 : Nat), .int .u64 (wd M 3 : Nat)] 84)).cell? ⟨w3.heap.size, 2, none⟩ = some (.int .u64 (wd M 2 : Nat)) := q9.cell 2
      have x3 : (w3.alloc (.cells #[.int .u64 (wd M 0 : Nat), .int .u64 (wd M 1 : Nat), .int .u64 (wd M 2 : Nat), .int .u64 (wd M 3 : Nat)] 84)).cell? ⟨w3.heap.size, 3, none⟩ = some (.int .u64 (wd M 3 : Nat)) := q9.cell 3
      have FIN := Lib.hid (And.intro (hk3.below hb3) (show Prs (w3.alloc (.cells (setC M) 84)) p s j from Blk.below hP hb3))
      clear hb3 q9
      go_wp2
      go_returns
      exact ⟨FIN.out.1, _, .atEsc EB.out HQ.out, _, rfl, escF_le HQ.out, FIN.out.2, .leaf M (escF_small HQ.out) (escF_ne HQ.out)⟩
  have n92 : ((b : Int) == 92) = false := ne_lit h92
  by_cases h46 : b = 46
  · have EB := Lib.hid (show bt s i = 46 by rw [← HB.out]; exact h46)
    subst h46
    go_wp2_with fail
    generalize w.setCell ⟨p, 1, none⟩ (.int .i64 ((i : Int) + 1)) = w2 at *
    refine (span_any 0 255 (by decide) (by decide) _).mono ?_
    rintro e w3 ⟨rfl, hb3⟩
    obtain ⟨M, hM⟩ : ∃ M, M = spanN 0 255 := ⟨_, rfl⟩
    rw [← hM, setV_eq]
    have HM := Lib.hid hM
    clear hM
    have FIN := Lib.hid (And.intro (F1.out.2.1.below hb3) (show Prs w3 p s (i + 1) from Blk.below F1.out.1 hb3))
    go_wp2
    go_returns
    have hml : M < 2 ^ 256 := by rw [HM.out]; exact spanN_lt _ _ (by decide)
    have hmn : M ≠ 0 := by rw [HM.out]; exact spanN_ne (by decide)
    have hg := Gr.atDot (s := s) EB.out
    rw [show fullN = M from HM.out.symm] at hg
    exact ⟨FIN.out.1, _, hg, _, rfl, by omega, FIN.out.2, .leaf M hml hmn⟩
  have n46 : ((b : Int) == 46) = false := ne_lit h46
  go_wp2_with fail
  generalize w.setCell ⟨p, 1, none⟩ (.int .i64 ((i : Int) + 1)) = w2 at *
  refine (span_any b b hbl hbl _).mono ?_
  rintro e w3 ⟨rfl, hb3⟩
  obtain ⟨M, hM⟩ : ∃ M, M = spanN b b := ⟨_, rfl⟩
  rw [← hM, setV_eq]
  have HM := Lib.hid hM
  clear hM
  have FIN := Lib.hid (And.intro (F1.out.2.1.below hb3) (show Prs w3 p s (i + 1) from Blk.below F1.out.1 hb3))
  go_wp2
  go_returns
  have hml : M < 2 ^ 256 := by rw [HM.out]; exact spanN_lt _ _ hbl
  have hmn : M ≠ 0 := by rw [HM.out]; exact spanN_ne (Nat.le_refl _)
  have hg := Gr.atByte (s := s) hodd.out (by rw [← HB.out]; exact h40) (by rw [← HB.out]; exact h91) (by rw [← HB.out]; exact h92) (by rw [← HB.out]; exact h46)
  rw [← HB.out, ← HM.out] at hg
  exact ⟨FIN.out.1, _, hg, _, rfl, by omega, FIN.out.2, .leaf M hml hmn⟩
end Go.Proofs.YtlocogccjlecjaaDoor
