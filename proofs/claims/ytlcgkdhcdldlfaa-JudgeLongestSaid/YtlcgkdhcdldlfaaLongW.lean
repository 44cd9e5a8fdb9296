import Derived.Test.YtlcgkdhcdldlfaaCleanX
import Derived.Test.YtlcgkdhcdldlfaaJudgeW
namespace Go.Proofs.Ytlcgkdhcdldlfaa
open Go.RowKit

/-- the choices, as many as the tree has nodes -/
def allL (ch : List Int) (n : Nat) : List Int := ch.take n ++ List.replicate (n - ch.length) 0
theorem allL_length (ch : List Int) (n : Nat) : (allL ch n).length = n := by simp [allL]; omega
theorem allL_get (ch : List Int) (n k : Nat) (h : k < n) (h' : k < ch.length) : (allL ch n)[k]'(by rw [allL_length]; exact h) = ch[k] := by
  simp only [allL]
  rw [List.getElem_append_left (by simp; omega), List.getElem_take]
theorem mkA_all (ch : List Int) (n k : Nat) (h : k = n ∨ (k = ch.length ∧ k ≤ n)) : mkA (allL ch n) k = (I64 (allL ch n)).toArray := by
  rcases h with rfl | ⟨rfl, h⟩
  · have := mkA_full (allL ch k)
    rwa [allL_length] at this
  · unfold mkA
    rw [allL_length]
    congr 2
    unfold allL
    rw [List.take_of_length_le (l := ch) h, List.take_append_of_le_length (Nat.le_refl _), List.take_length]
theorem goodW_one (t : List Nd) (ch : List Int) (p : List Nat) : goodW t ch p 1 := fun j h => by omega
theorem goodW_next {t : List Nd} {ch : List Int} {p : List Nat} {j : Nat} (h1 : 1 ≤ j) : goodW t ch p (j + 1) ↔ goodW t ch p j ∧ tk t (gv p j) = chv ch (gv p (j - 1)) := by
  constructor
  · intro h
    refine ⟨fun i hi => h i (by omega), ?_⟩
    have := h (j - 1) (by omega)
    rwa [show j - 1 + 1 = j by omega] at this
  · rintro ⟨h, h2⟩ i hi
    rcases Nat.lt_or_ge (i + 1) j with h3 | h3
    · exact h i h3
    · obtain rfl : i = j - 1 := by omega
      rw [show j - 1 + 1 = j by omega]
      exact h2
instance (t : List Nd) (ch : List Int) (p : List Nat) (k : Nat) : Decidable (goodW t ch p k) := decidable_of_iff (∀ j, j < k - 1 → tk t (gv p (j + 1)) = chv ch (gv p j)) ⟨fun h j hj => h j (by omega), fun h j hj => h j (by omega)⟩
theorem nats_at (l : List Nat) (k : Nat) (h : k < l.length) : (nats l)[k]'(by rw [nats_length]; exact h) = (gv l k : Int) := by
  simp [nats, gv, h]
theorem nats_cell {w : World} {b o : Nat} {l : List Nat} (h : Rd w (some ⟨b, o, none⟩) (I64 (nats l))) (k : Nat) (hk : k < l.length) : w.cell? ⟨b, o + k, none⟩ = some (.int .i64 (gv l k : Int)) := by
  rw [h.i64At k (by rw [nats_length]; exact hk), nats_at l k hk]
theorem wfN_clean (root : Int) (r : List RNd) (v : Int) (h1 : (Lit.int .i64 root).wf = true) (hv : v ≤ 1099511627776) : WfN (cleanT root r v) := by
  intro i hi
  have hT := cleanT_tree root r v
  have h32 := hT.2.1
  rcases Nat.eq_zero_or_pos i with rfl | h0
  · exact ⟨by rw [hT.2.2.1]; decide, h1, by rw [hT.2.2.2.1]; decide⟩
  · obtain ⟨g1, g2, g3, _⟩ := hT.2.2.2.2 i hi h0
    have gd := (dep_le (cleanT root r v) hT.2.2.2.1 (cleanT root r v).length (fun j hj h => hT.2.2.2.2 j hj h)) i hi
    have gt : tk (cleanT root r v) i < 1099511627776 := by
      obtain ⟨i, rfl⟩ : ∃ j, i = j + 1 := ⟨i - 1, by omega⟩
      have hl : (cleanT root r v).length = min 31 (waysR r v).length + 1 := cleanL_length _ _ _
      have e : tk (cleanT root r v) (i + 1) = (cleanN (waysR r v) i).2.1 := by
        unfold tk cleanT
        rw [cleanL_at root _ _ i (by omega)]
      have hiw : i < (waysR r v).length := by omega
      obtain ⟨a1, _, _⟩ := above (r := r) (v := v) hiw
      obtain ⟨j, _, hg, he⟩ := (waysR_ok r v).good _ (getD_mem hiw)
      have hlt := wayR_lt r v j hg
      rw [he] at hlt
      rw [e]
      refine Int.lt_of_lt_of_le (hlt _ ?_) hv
      show ((waysR r v).getD i []).getD (((waysR r v).getD i []).length - 1) 0 ∈ _
      generalize (waysR r v).getD i [] = W at a1 ⊢
      have e2 : W.getD (W.length - 1) 0 = W[W.length - 1]'(by omega) := by simp [show W.length - 1 < W.length by omega]
      rw [e2]
      exact List.getElem_mem _
    exact ⟨WalkArith.wf_i64 (by omega), WalkArith.wf_i64 (by omega), WalkArith.wf_i64 (by omega)⟩

set_option maxRecDepth 100000 in
set_option maxHeartbeats 8000000 in
/-- JudgeLongest -/
theorem judgeLongest_any (A B : Option Addr) (n c m d : Nat) (root : Int) (r : List RNd) (ch : List Int) (w : World) (hroot : (Lit.int .i64 root).wf = true) (hl : r.length = n) (hm : n ≤ 140737488355328) (hx : Rd w A (PR r)) (hl2 : ch.length = m) (hm2 : m ≤ 140737488355328) (hy : Rd w B (I64 ch)) :
    Calls Try.prog 7 #[.int .i64 root, .slice A n c, .slice B m d] w fun e w' => e = .returned (.bool true) ∧ Below w.heap.size w w' := by
  go_enter Try.func7, Try.ntmps7
  go_wp2_with fail
  refine (works_any w).mono ?_
  rintro e w1 ⟨rfl, hb⟩
  by_cases h96 : 96 < n
  · go_wp2_with fail
    refine (clean_long A n c root 1099511627776 w1 h96 hm).mono ?_
    rintro e w2 ⟨rfl, hb1⟩
    replace hb := bthen hb hb1
    go_wp2
    go_returns
    exact ⟨rfl, hb⟩
  · have hT := cleanT_tree root r 1099511627776
    have hwf := wfN_clean root r 1099511627776 hroot (by omega)
    go_wp2_with fail
    refine (clean_any A n c root r 1099511627776 w1 hl (by omega) (hx.below hb)).mono ?_
    rintro e w2 ⟨u, rfl, ot, hb1⟩
    replace hb := bthen hb hb1
    obtain ⟨tA, tc, rfl, _, _⟩ := own_rd ot
    have rt := own_rdA ot
    have h32 := hT.2.1
    have hT0 := hT.1
    clear ot hb1 hx
    generalize cleanT root r 1099511627776 = t at *
    generalize hq : t.length = q at *
    obtain ⟨i0, hi, hz0, hz1, hz2⟩ := info_parts info3
    have hmk : ∀ u : World, (Instr.makeSlice 23 (.int .i64 (q : Int)) (.int .i64 (q : Int))).run Try.prog u = .ok (.slice (some ⟨u.heap.size, 0, none⟩) q q) (u.alloc (.cells (madeCells #[.int .i64 0] q) 3)) := fun u => by
      have h := run_make (P := Try.prog) u 23 3 i0 (.int .i64 0) Try.underlying23 hi hz0 .i64 .i64 (q : Int) (q : Int) (by omega) (by omega) (by rw [hz2]; omega) (by omega)
      have e : (q : Int).toNat = q := by omega
      rw [e, hz1, Nat.mul_one] at h
      exact h
    have HQ := Lib.hid hq
    clear hq
    go_wp2
    have s0 : Blk (w2.alloc (.cells (madeCells #[.int .i64 0] q) 3)) w2.heap.size (mkA (allL ch q) 0) 3 := by
      rw [mkA_zero, allL_length]
      exact Blk.new w2 _ 3
    have hbn : Below w2.heap.size w2 (w2.alloc (.cells (madeCells #[.int .i64 0] q) 3)) := (Below.refl _ _).alloc (Nat.le_refl _) _
    clear hmk
    have HT := Lib.hid hT
    have HWF := Lib.hid hwf
    clear hT hwf
    generalize w2.alloc (.cells (madeCells #[.int .i64 0] q) 3) = w3 at *
    go_loopw [11] (fun i wr => ∃ k : Nat, k ≤ q ∧ k ≤ m ∧ i = .int .i64 (k : Int) ∧ Blk wr w2.heap.size (mkA (allL ch q) k) 3 ∧ Below w2.heap.size w2 wr) (fun i _ => q - (intOf i).toNat)
    case atStart => exact ⟨0, by omega, by omega, rfl, s0, hbn⟩
    case round =>
      clear s0 hbn
      obtain ⟨k, hk, hkm, rfl, p0, hb3⟩ := hrel
      by_cases hlt : k < q ∧ k < m
      · obtain ⟨l1, l2⟩ := hlt
        have g1 : (k : Int) < (q : Int) := by omega
        have g2 : (k : Int) < (m : Int) := by omega
        have y0 : wr.cell? ⟨w2.heap.size, k, none⟩ = some (.int .i64 0) := by rw [p0.cell, mkA_get _ _ (by rw [allL_length]; omega)]
        have y1 := p0.frozen k
        have ea : (⟨w2.heap.size, 0, none⟩ : Addr).add k = ⟨w2.heap.size, k, none⟩ := by simpa using addr_add w2.heap.size 0 k
        have S1 := Lib.hid (mkA_set (allL ch q) k (by rw [allL_length]; omega))
        obtain ⟨b, o, rfl, u0⟩ := (hy.below (bthen hb hb3)).i64 k (by omega)
        have eb := addr_add b o k
        have hv : (allL ch q)[k]'(by rw [allL_length]; omega) = ch[k]'(by omega) := allL_get ch q k l1 (by omega)
        rw [hv] at S1
        generalize ch[k]'(by omega) = z at *
        have q1 := p0.set k (.int .i64 z)
        rw [S1.out] at q1
        have hb4 := hb3.setCell (p := ⟨w2.heap.size, k, none⟩) (by simp) (.int .i64 z)
        clear hv
        go_wp2
        go_roundw
        case rel => exact ⟨k + 1, by omega, by omega, by go_num, q1, hb4⟩
        case measure => simp [intOf]; omega
      · have p1 : Blk wr w2.heap.size (I64 (allL ch q)).toArray 3 := by
          rw [← mkA_all ch q k (by omega)]
          exact p0
        have ra := p1.rd (xs := I64 (allL ch q)) rfl
        have rt1 := rt.below hb3
        replace hb := bthen hb hb3
        have AL := Lib.hid (allL_length ch q)
        clear p0 p1 rt hb3
        generalize allL ch q = al at *
        generalize w2.heap.size = G at *
        have fin : (k < q ∧ ¬ k < m) ∨ ¬ k < q := by omega
        rcases fin with ⟨f1, f2⟩ | f1
        case' inl =>
          have g1 : (k : Int) < (q : Int) := by omega
          have g2 : ¬ (k : Int) < (m : Int) := by omega
        case' inr => have g1 : ¬ (k : Int) < (q : Int) := by omega
        all_goals
          clear hk hkm
          go_wp2_with fail
          refine (walk_any tA (some ⟨G, 0, none⟩) q tc q q t al wr HQ.out (by omega) rt1 HWF.out AL.out (by omega) ra).mono ?_
          rintro e w4 ⟨v, rfl, ov, hb1⟩
          have okw : okW t al := ⟨HT.out, AL.out.trans HQ.out.symm⟩
          have eL : walkL t al = nats (way t al) := if_pos okw
          have eN : walkN t al = chv al (lastW (way t al)) := if_pos okw
          have eE : walkE t al = 0 := by unfold walkE; rw [if_pos HT.out, if_pos okw.2]
          rw [eN, eE]
          rw [eL] at ov
          rw [nats_length] at ov
          obtain ⟨pA, pc, rfl, hpc, _⟩ := own_rd ov
          have rp := own_rdA ov
          replace ra := ra.below hb1
          replace rt1 := rt1.below hb1
          replace hb := bthen hb hb1
          obtain ⟨hp, hpl⟩ := way_len (ch := al) HT.out
          have PL := Lib.hid hpl
          have IW := Lib.hid (way_isWay (ch := al) HT.out)
          have GI := Lib.hid (fun i h => (good_in (ch := al) HT.out i h).trans (prefix_take _ _))
          have LG := Lib.hid (lastW_gv (way t al))
          have P33 := Lib.hid (way_short HT.out IW.out)
          rw [nats_length] at P33
          have p33 := P33.out
          rw [HQ.out] at p33
          clear ov hb1 okw eL eN eE hpl
          generalize way t al = pp at *
          generalize hpq : pp.length = z at *
          have HZ := Lib.hid hpq
          clear hpq g1
          go_wp2_with fail
          refine (isWay_any tA pA q tc z pc t (nats pp) w4 HQ.out (by omega) rt1 (by rw [nats_length]; exact HZ.out) (by omega) rp).mono ?_
          rintro e w5 ⟨rfl, hb1⟩
          rw [decide_eq_true IW.out]
          replace rp := rp.below hb1
          replace ra := ra.below hb1
          replace rt1 := rt1.below hb1
          replace hb := bthen hb hb1
          clear hb1
          obtain ⟨y, rfl⟩ : ∃ y, z = y + 1 := ⟨z - 1, by omega⟩
          obtain ⟨b, o, rfl⟩ := rp.start (by rw [I64_length, nats_length, HZ.out]; omega)
          have u0 := nats_cell rp y (by rw [HZ.out]; omega)
          have hgy : gv pp y < q := by
            have := PL.out (gv pp y) (by rw [← gv_get pp y (by rw [HZ.out]; omega)]; exact List.getElem_mem _)
            rw [HQ.out] at this
            exact this
          have v0 := ra.i64At (gv pp y) (by rw [AL.out]; exact hgy)
          rw [chv_get al _ (by rw [AL.out]; exact hgy), Nat.zero_add] at v0
          have LG2 := LG.out
          rw [Nat.add_sub_cancel] at LG2
          rw [LG2]
          have ea := addr_add b o y
          have eb : (⟨G, 0, none⟩ : Addr).add (gv pp y) = ⟨G, gv pp y, none⟩ := by simpa using addr_add G 0 (gv pp y)
          clear LG2
          have hne : (chv al (gv pp y) != chv al (gv pp y)) = false := by simp
          have g2 : (gv pp y : Int) < (q : Int) := by omega
          have g3 : (y : Int) ≤ 32 := by omega
          generalize chv al (gv pp y) = nx at *
          generalize gv pp y = lp at *
          clear hp p33
          go_wp2
          clear u0 v0 ea eb hne hgy g2
          go_loopw [16, 17, 18, 19, 20] (fun i _ _ _ _ wr => ∃ k : Nat, k ≤ q ∧ i = .int .i64 (k : Int) ∧ Below w5.heap.size w5 wr) (fun i _ _ _ _ _ => q - (intOf i).toNat)
          case atStart => exact ⟨0, by omega, rfl, Below.refl _ _⟩
          case round =>
            obtain ⟨k2, hk2, rfl, hb5⟩ := hrel
            by_cases hlt : k2 < q
            · have g4 : (k2 : Int) < (q : Int) := by omega
              have G0 := Lib.hid (GI.out k2 (by rw [HQ.out]; exact hlt))
              obtain ⟨po, pm, po2⟩ := pathT_ok HT.out k2 (by rw [HQ.out]; exact hlt)
              have pos : 1 ≤ (pathT t k2).length := by obtain ⟨_, h⟩ := po2; rw [h]; simp
              have PM := Lib.hid pm
              clear pm po2
              go_wp2_with fail
              refine (way14_any tA q tc t HT.out HQ.out k2 hlt wr (rt1.below hb5)).mono ?_
              rintro e w6 ⟨u, rfl, ou, hb1⟩
              replace hb5 := bthen hb5 hb1
              obtain ⟨uA, uc, rfl, huc, _⟩ := own_rd ou
              have ru := own_rdA ou
              clear ou hb1
              generalize pathT t k2 = L at *
              generalize hll : L.length = l at *
              have HL := Lib.hid hll
              clear hll
              go_wp2
              go_loopw [18, 19] (fun g i wr => ∃ j : Nat, 1 ≤ j ∧ j ≤ l ∧ i = .int .i64 (j : Int) ∧ g = .bool (decide (goodW t al L j)) ∧ Below w6.heap.size w6 wr) (fun _ i _ => l - (intOf i).toNat)
              case atStart => exact ⟨1, by omega, by omega, rfl, by rw [decide_eq_true (goodW_one t al L)], Below.refl _ _⟩
              case round =>
                obtain ⟨j, hj1, hjl, rfl, rfl, hb6⟩ := hrel
                by_cases hlj : j < l
                · have g5 : (j : Int) < (l : Int) := by omega
                  have NX := Lib.hid (goodW_next (t := t) (ch := al) (p := L) hj1)
                  by_cases hg : goodW t al L j
                  · rw [decide_eq_true hg]
                    have EQ := Lib.hid (show goodW t al L (j + 1) ↔ tk t (gv L j) = chv al (gv L (j - 1)) from ⟨fun h => (NX.out.1 h).2, fun h => NX.out.2 ⟨hg, h⟩⟩)
                    have ru6 := ru.below hb6
                    obtain ⟨b1, o1, rfl⟩ := ru.start (by rw [I64_length, nats_length, HL.out]; omega)
                    have c0 := nats_cell ru6 j (by rw [HL.out]; exact hlj)
                    have c1 := nats_cell ru6 (j - 1) (by rw [HL.out]; omega)
                    have mx : ∀ i, i < l → gv L i < q := fun i hi => by
                      have := PM.out (gv L i) (by rw [← gv_get L i (by rw [HL.out]; exact hi)]; exact List.getElem_mem _)
                      omega
                    have m0 := mx j hlj
                    have m1 := mx (j - 1) (by omega)
                    obtain ⟨b2, o2, rfl, _, u1, _⟩ := ((rt1.below hb5).below hb6).nd (gv L j) (by rw [HQ.out]; exact m0)
                    have v1 := ((ra.below hb5).below hb6).i64At (gv L (j - 1)) (by rw [AL.out]; exact m1)
                    rw [chv_get al _ (by rw [AL.out]; exact m1), Nat.zero_add] at v1
                    have e1 := addr_add b1 o1 j
                    have e2 := addr_add b1 o1 (j - 1)
                    have e3 := addr_add b2 o2 (gv L j * 3)
                    have e4 := addr_add b2 (o2 + gv L j * 3) 1
                    have e5 : (⟨G, 0, none⟩ : Addr).add (gv L (j - 1)) = ⟨G, gv L (j - 1), none⟩ := by simpa using addr_add G 0 (gv L (j - 1))
                    have i1 : ((gv L j : Nat) : Int) < (q : Int) := by omega
                    have i2 : ((gv L (j - 1) : Nat) : Int) < (q : Int) := by omega
                    have hw1 : IntKind.i64.wrap ((j : Int) - 1) = (j : Int) - 1 := IntWalk.i64_in _ (by omega)
                    have ht1 : ((j : Int) - 1).toNat = j - 1 := by omega
                    have hk1 : 0 ≤ (j : Int) - 1 := by omega
                    have hk2 : (j : Int) - 1 < (l : Int) := by omega
                    have P0 : ∀ x y : Int, x = y → (x == y) = true := fun x y h => by rw [h]; simp
                    clear mx hg ru6
                    generalize tk t (gv L j) = X at *
                    generalize chv al (gv L (j - 1)) = Y at *
                    generalize gv L j = x1 at *
                    generalize gv L (j - 1) = x2 at *
                    by_cases hxy : X = Y
                    · have N0 := Lib.hid (show decide (goodW t al L (j + 1)) = true from decide_eq_true (EQ.out.2 hxy))
                      subst hxy
                      have hxx := P0 X X rfl
                      clear P0
                      go_wp2
                      go_quiet (fail)
                      all_goals go_wp2
                      go_roundw
                      case rel => exact ⟨j + 1, by omega, by omega, by go_num, by rw [N0.out], bdraw hb6 _⟩
                      case measure => simp [intOf]; omega
                    · have N0 := Lib.hid (show decide (goodW t al L (j + 1)) = false from decide_eq_false (fun h => hxy (EQ.out.1 h)))
                      have hxx : (X == Y) = false := by simpa using hxy
                      clear P0 hxy
                      go_wp2
                      go_quiet (fail)
                      all_goals go_wp2
                      go_roundw
                      case rel => exact ⟨j + 1, by omega, by omega, by go_num, by rw [N0.out], bdraw hb6 _⟩
                      case measure => simp [intOf]; omega
                  · rw [decide_eq_false hg]
                    have N0 := Lib.hid (show decide (goodW t al L (j + 1)) = false from decide_eq_false (fun h => hg (NX.out.1 h).1))
                    clear hg
                    go_wp2
                    go_quiet (fail)
                    all_goals go_wp2
                    go_roundw
                    case rel => exact ⟨j + 1, by omega, by omega, by go_num, by rw [N0.out], bdraw hb6 _⟩
                    case measure => simp [intOf]; omega
                · obtain rfl : j = l := by omega
                  have j32 : j ≤ 33 := by omega
                  have G1 := G0.out
                  have ru6 := ru.below hb6
                  have rp6 := ((rp.below hb5).below hb6).take j
                  by_cases hle : j ≤ y + 1
                  · have g6 : (j : Int) ≤ (y : Int) + 1 := by omega
                    have MN : min (j : Int) ((y : Int) + 1) = (j : Int) := by omega
                    have hpc' : j ≤ pc := by omega
                    have G2 := Lib.hid (show decide (goodW t al L j) = decide (nats L = (nats pp).take j) from by
                      by_cases hN : nats L = (nats pp).take j
                      · rw [decide_eq_true hN, decide_eq_true (G1.2 ⟨hle, hN⟩)]
                      · rw [decide_eq_false hN, decide_eq_false (fun h => hN (G1.1 h).2)])
                    clear G1
                    go_wp2_with fail
                    refine (least_any _ _ _).mono ?_
                    rintro e w7 ⟨rfl, rfl⟩
                    rw [MN]
                    clear MN
                    go_wp2_with fail

                    refine (eqInts_any uA (some ⟨b, o, none⟩) j j uc pc (nats L) ((nats pp).take j) (by rw [nats_length]; exact HL.out) (by rw [List.length_take, nats_length, HZ.out]; omega) (by omega) _ ru6 rp6).mono ?_
                    rintro e w8 ⟨rfl, hb8⟩
                    rw [← G2.out]
                    generalize decide (goodW t al L j) = gg at *
                    have hgg : (gg != gg) = false := by simp
                    go_wp2
                    go_roundw
                    case rel => exact ⟨k2 + 1, by omega, by go_num, bthen hb5 (bthen hb6 hb8)⟩
                    case measure => simp [intOf]; omega
                  · have g6 : ¬ (j : Int) ≤ (y : Int) + 1 := by omega
                    have G2 := Lib.hid (show decide (goodW t al L j) = false from decide_eq_false (fun h => hle (G1.1 h).1))
                    rw [G2.out]
                    clear G1
                    go_wp2
                    go_roundw
                    case rel => exact ⟨k2 + 1, by omega, by go_num, bthen hb5 hb6⟩
                    case measure => simp [intOf]; omega
            · go_wp2
              go_returns
              exact ⟨rfl, bthen hb hb5⟩
end Go.Proofs.Ytlcgkdhcdldlfaa
