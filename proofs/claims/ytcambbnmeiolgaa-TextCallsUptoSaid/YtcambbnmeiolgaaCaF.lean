import Derived.Test.YtcambbnmeiolgaaCaE
namespace Go.Proofs.Ytcambbnmeiolgaa
open Go.RowKit
/-! does: a Feed -/
theorem I64_app (a b : List Int) : I64 (a ++ b) = I64 a ++ I64 b := by simp [I64]
theorem I64_set (l : List Int) (i : Nat) (x : Int) : I64 (l.set i x) = (I64 l).set i (.int .i64 x) := by simp [I64, List.map_set]
set_option maxRecDepth 100000 in
set_option maxHeartbeats 8000000 in
theorem does_feed {col : Nat → Nat} {c : Nat} {W : World} {q : Nat} {pv rv : Nat → Value} {lv mv : Value} {N : Nat} {vl vm : List Value} {x : Nat → Option Ss} {B : Nat} (h : Wd col c W q pv rv lv mv N vl vm x x B) (o : OpT) (hop : ∀ w', Kp (Mine col c) W w' → OpOk w' o) (h4 : o.kind = 2) (k : Nat) (hk : k < 2) (ho : bits .and .i64 o.on 1 = (k : Int)) (hc12 : c ≤ 12) (hB : B ≤ 70000000000000) (hN : N ≤ 1099511627776) (hlen : (fo (x k) o.l).2.1.length ≤ 1099511627776) :
    Calls Try.prog 13 #[.pointer (some ⟨q, 0, none⟩), (.agg (opC o))] W fun en w' => en = .returned (.bool true) ∧ DoesOut col c W q N (B + 16777216) (upK x k (fo (x k) o.l).1) w' := by
  have hb0 : Below W.heap.size W (W.alloc (.cells (opC o) 41)) := by go_grown
  have h0 := h.below (col' := colR col W 50) hb0 (fun j hj => colR_old hj)
  have q0 := Blk.new W (opC o) 41
  have hz0 : (W.alloc (.cells (opC o) 41)).heap.size = W.heap.size + 1 := by simp
  have g1 : (k : Int) < 2 := by omega
  have a0 : (⟨q, 0, none⟩ : Addr).add k = ⟨q, k, none⟩ := by simpa using addr_add q 0 k
  have a2 : (⟨q, 0, none⟩ : Addr).add 2 = ⟨q, 2, none⟩ := by simpa using addr_add q 0 2
  have a3 : (⟨q, 2, none⟩ : Addr).add k = ⟨q, 2 + k, none⟩ := addr_add q 2 k
  have b5 : (⟨W.heap.size, 0, none⟩ : Addr).add 5 = ⟨W.heap.size, 5, none⟩ := by simpa using addr_add W.heap.size 0 5
  have OP := Lib.hid hop
  have hop0 := hop W (Kp.refl _ _)
  have hkn := hop0.kb
  have hkl := hop0.kl
  have KL := Lib.hid hkl
  obtain ⟨Y, O, E, hfo⟩ : ∃ Y O E, fo (x k) o.l = (Y, O, E) := ⟨_, _, _, rfl⟩
  have FO := Lib.hid hfo
  rw [hfo] at hlen ⊢
  dsimp only at hlen ⊢
  have H0 := Lib.hid h0
  clear h0 h hop hop0 hfo hkl
  go_enter Try.func13, Try.ntmps13
  go_wp2_with fail
  refine (tokens_any o.K o.kn o.kc o.l KL.out hkn _ (OP.out _ (.of_below hb0)).k).mono ?_
  rintro en w1 ⟨lv1, rfl, ol, hb1⟩
  obtain ⟨lA, lc, rfl, hlc, _⟩ := own_rd ol
  have hz1 := hb1.size
  have q1 := q0.below hb1
  have h1 := H0.out.below (col' := colR col W 50) hb1 (fun j hj => rfl)
  have hlb : ∀ j, (Value.slice lA (o.kn + 64) lc).ownBlock = some j → W.heap.size < j ∧ j < w1.heap.size := fun j hj => by have := own_lt ol j hj; omega
  have LB := Lib.hid hlb
  have x5 : w1.cell? ⟨W.heap.size, 5, none⟩ = some (.slice o.K o.kn o.kc) := q1.cell _
  have x0 : w1.cell? ⟨q, k, none⟩ = some (pv k) := (h1.bk.cell _).trans (wc_at hk).1
  have x5' : w1.drew.cell? ⟨W.heap.size, 5, none⟩ = some (.slice o.K o.kn o.kc) := x5
  have x0' : w1.drew.cell? ⟨q, k, none⟩ = some (pv k) := x0
  have g2 : (o.kn : Int) ≤ (lc : Int) := by omega
  have g3 : o.kn ≤ lc := by omega
  have H1 := Lib.hid (show Wd (colR col W 50) c w1.drew q pv rv lv mv N vl vm x x B from h1.below (Below.refl _ _).drew (fun j hj => rfl))
  have OL := Lib.hid ol
  have Q1 := Lib.hid q1
  have HB1 := Lib.hid (bthen hb0 hb1)
  clear h1 H0 ol q1 q0 hb1 hb0 hlb
  go_wp2
  rename_i KK aK
  have key22 : ∀ (a : Act) (w2 : World) (uA : Option Addr) (uc : Nat), (∃ us : Nat → Value, a = { tmps := #[.pointer (some ⟨q, 0, none⟩), us 1, us 2, .pointer (some ⟨W.heap.size, 0, none⟩), us 4, .int .i64 (k : Int), us 6, us 7, us 8, us 9, us 10, us 11, us 12, us 13, us 14, .slice lA (o.kn + 64) lc, .slice uA O.length uc, .int .i64 E, us 18, us 19, us 20, us 21, us 22, us 23, us 24, us 25, us 26, us 27, us 28, us 29, us 30, us 31, us 32, us 33, us 34, us 35, us 36, us 37, us 38, us 39, us 40, us 41, us 42, us 43, us 44, us 45, us 46, us 47, us 48, us 49, us 50, us 51, us 52, us 53, us 54, us 55, us 56, us 57, us 58, us 59, us 60, us 61, us 62, us 63, us 64, us 65, us 66, us 67, us 68, us 69, us 70, us 71, us 72, us 73, us 74, us 75, us 76, us 77, us 78, us 79, us 80, us 81, us 82, us 83, us 84, us 85, us 86, us 87, us 88, us 89, us 90, us 91, us 92, us 93, us 94, us 95, us 96, us 97, us 98, us 99, us 100, us 101, us 102, us 103, us 104, us 105, us 106, us 107, us 108, us 109, us 110, us 111, us 112, us 113, us 114, us 115, us 116, us 117, us 118, us 119, us 120, us 121, us 122, us 123, us 124, us 125, us 126, us 127, us 128, us 129, us 130, us 131, us 132, us 133, us 134, us 135, us 136, us 137, us 138, us 139, us 140, us 141, us 142, us 143, us 144, us 145, us 146, us 147, us 148, us 149, us 150, us 151, us 152, us 153, us 154, us 155, us 156, us 157, us 158, us 159, us 160, us 161, us 162, us 163, us 164, us 165, us 166, us 167, us 168, us 169, us 170, us 171, us 172, us 173, us 174, us 175, us 176, us 177, us 178, us 179, us 180, us 181, us 182, us 183, us 184, us 185, us 186, us 187, us 188, us 189, us 190, us 191, us 192, us 193, us 194, us 195, us 196, us 197, us 198, us 199, us 200, us 201, us 202, us 203, us 204, us 205, us 206, us 207, us 208, us 209, us 210, us 211, us 212, us 213, us 214], defers := [] }) → (Wd (colR (colR col W 50) w1.drew 50) c w2 q pv rv lv mv N vl vm (upK x k Y) x B ∧ w2.ownsRow w1.heap.size 5 1 (.slice uA O.length uc) O.length (B8 O) ∧ Kp (Mine (colR col W 50) c) w1.drew w2) → KK a w2 := by
    rintro a w2 uA uc ⟨us, rfl⟩ ⟨h2, ou, hk2⟩
    refine aK _ _ ?_
    have hz2 := hk2.size
    have hzd : w1.drew.heap.size = w1.heap.size := rfl
    have x1 : w2.cell? ⟨q, 2 + k, none⟩ = some (rv k) := (h2.bk.cell _).trans (wc_at hk).2
    have q2 : Blk w2 W.heap.size (opC o) 41 := Q1.out.kp (w := w1.drew) hk2 (mine_50 hc12 (Nat.le_refl _))
    have x6 : w2.cell? ⟨W.heap.size, 5, none⟩ = some (.slice o.K o.kn o.kc) := q2.cell _
    have x1' : w2.drew.cell? ⟨q, 2 + k, none⟩ = some (rv k) := x1
    have x6' : w2.drew.cell? ⟨W.heap.size, 5, none⟩ = some (.slice o.K o.kn o.kc) := x6
    have ol2 : w2.ownsRow (W.heap.size + 1) 3 1 (.slice lA (o.kn + 64) lc) (o.kn + 64) (I64 (o.l ++ tokM 64)) := by
      have := ownKp (w := w1.drew) OL.out hk2 (fun j hj hm => mine_50 hc12 (by have := LB.out j hj; omega) hm)
      rwa [hz0] at this
    have H2 := Lib.hid (show Wd (colR (colR col W 50) w1.drew 50) c w2.drew q pv rv lv mv N vl vm (upK x k Y) x B from h2.below (Below.refl _ _).drew (fun j hj => rfl))
    have OL2 := Lib.hid ol2
    have Q2 := Lib.hid q2
    have OU := Lib.hid ou
    have UB := Lib.hid (show ∀ j, (Value.slice uA O.length uc).ownBlock = some j → w1.heap.size ≤ j ∧ j < w2.heap.size from fun j hj => own_lt ou j hj)
    have KP2 := Lib.hid (show Kp (Mine col c) W w2 from ((Kp.of_below HB1.out).below (Below.refl _ _).drew).step hk2 (fun j hj hm => (mine_eq (colR_old hj)).1 hm))
    have old2 : ∀ j, j < W.heap.size → colR (colR col W 50) w1.drew 50 j = col j := fun j hj => by rw [colR_old (by omega), colR_old hj]
    have OLD2 := Lib.hid old2
    have n50 : ∀ j, W.heap.size ≤ j → ¬ Mine (colR (colR col W 50) w1.drew 50) c j := fun j hj hm => by
      unfold Mine at hm
      rcases Nat.lt_or_ge j w1.heap.size with h | h
      · rw [colR_old (by omega), colR_new hj] at hm; omega
      · rw [colR_new (by omega)] at hm; omega
    have N50 := Lib.hid n50
    clear aK h2 q2 ol2 ou hk2 x5 x0 x5' x0' H1 OL Q1 old2 n50
    go_wp2
    rename_i KK aK
    have key23 : ∀ (a : Act) (w3 : World) (vA : Option Addr) (vc : Nat), (∃ us : Nat → Value, a = { tmps := #[.pointer (some ⟨q, 0, none⟩), us 1, us 2, .pointer (some ⟨W.heap.size, 0, none⟩), us 4, .int .i64 (k : Int), us 6, us 7, us 8, us 9, us 10, us 11, us 12, us 13, us 14, .slice lA (o.kn + 64) lc, .slice uA O.length uc, .int .i64 E, .slice vA O.length vc, .int .i64 E, us 20, us 21, us 22, us 23, us 24, us 25, us 26, us 27, us 28, us 29, us 30, us 31, us 32, us 33, us 34, us 35, us 36, us 37, us 38, us 39, us 40, us 41, us 42, us 43, us 44, us 45, us 46, us 47, us 48, us 49, us 50, us 51, us 52, us 53, us 54, us 55, us 56, us 57, us 58, us 59, us 60, us 61, us 62, us 63, us 64, us 65, us 66, us 67, us 68, us 69, us 70, us 71, us 72, us 73, us 74, us 75, us 76, us 77, us 78, us 79, us 80, us 81, us 82, us 83, us 84, us 85, us 86, us 87, us 88, us 89, us 90, us 91, us 92, us 93, us 94, us 95, us 96, us 97, us 98, us 99, us 100, us 101, us 102, us 103, us 104, us 105, us 106, us 107, us 108, us 109, us 110, us 111, us 112, us 113, us 114, us 115, us 116, us 117, us 118, us 119, us 120, us 121, us 122, us 123, us 124, us 125, us 126, us 127, us 128, us 129, us 130, us 131, us 132, us 133, us 134, us 135, us 136, us 137, us 138, us 139, us 140, us 141, us 142, us 143, us 144, us 145, us 146, us 147, us 148, us 149, us 150, us 151, us 152, us 153, us 154, us 155, us 156, us 157, us 158, us 159, us 160, us 161, us 162, us 163, us 164, us 165, us 166, us 167, us 168, us 169, us 170, us 171, us 172, us 173, us 174, us 175, us 176, us 177, us 178, us 179, us 180, us 181, us 182, us 183, us 184, us 185, us 186, us 187, us 188, us 189, us 190, us 191, us 192, us 193, us 194, us 195, us 196, us 197, us 198, us 199, us 200, us 201, us 202, us 203, us 204, us 205, us 206, us 207, us 208, us 209, us 210, us 211, us 212, us 213, us 214], defers := [] }) → (Wd (colR (colR (colR col W 50) w1.drew 50) w2.drew (c + 1 + 4 * k + 3)) c w3 q pv rv lv mv N vl vm (upK x k Y) (upK x k Y) (B + 16777216) ∧ w3.ownsRow w2.heap.size 5 1 (.slice vA O.length vc) O.length (B8 O) ∧ Kp (Mine (colR (colR col W 50) w1.drew 50) c) w2.drew w3) → KK a w3 := by
      rintro a w3 vA vc ⟨us, rfl⟩ ⟨h3, ov, hk3⟩
      refine aK _ _ ?_
      have hz3 := hk3.size
      have hzd2 : w2.drew.heap.size = w2.heap.size := rfl
      have q3 : Blk w3 W.heap.size (opC o) 41 := Q2.out.kp (w := w2.drew) hk3 (N50.out _ (Nat.le_refl _))
      have ou3 := ownKp (w := w2.drew) OU.out hk3 (fun j hj hm => N50.out j (by have := UB.out j hj; omega) hm)
      have ol3 := ownKp (w := w2.drew) OL2.out hk3 (fun j hj hm => N50.out j (by have := LB.out j hj; omega) hm)
      have KP3 : Kp (Mine col c) W w3 := (KP2.out.below (Below.refl _ _).drew).step hk3 (fun j hj hm => (mine_eq (OLD2.out j hj)).1 hm)
      clear aK x1 x6 x1' x6' H2 Q2 OL2 OU KP2 hk3
      go_wp2_with fail
      refine (eqBytes_any uA vA O.length O.length uc vc O O rfl rfl (by omega) w3 (own_rdv ou3) (own_rdv ov)).mono ?_
      rintro en w4 ⟨rfl, hb4⟩
      rw [decide_eq_true (rfl : O = O)]
      have q4 := q3.below hb4
      have x6 : w4.cell? ⟨W.heap.size, 5, none⟩ = some (.slice o.K o.kn o.kc) := q4.cell _
      have KP4 := KP3.below hb4
      go_wp2_with fail
      refine (tokens_any o.K o.kn o.kc o.l KL.out hkn _ (OP.out _ KP4).k).mono ?_
      rintro en w5 ⟨lv2, rfl, ol5, hb5⟩
      obtain ⟨lA2, lc2, rfl, _, _⟩ := own_rd ol5
      have hb45 := bthen hb4 hb5
      have hz5 := hb45.size
      have ol35 := own_below ol3 hb45
      have hlm : (o.l ++ tokM 64).length = o.kn + 64 := by rw [List.length_append, KL.out]; simp [tokM]
      go_wp2_with fail
      refine (eqInts_any lA lA2 (o.kn + 64) (o.kn + 64) lc lc2 (o.l ++ tokM 64) (o.l ++ tokM 64) hlm hlm (by omega) w5 (own_rdv ol35) (own_rdv ol5)).mono ?_
      rintro en w6 ⟨rfl, hb6⟩
      rw [decide_eq_true (rfl : o.l ++ tokM 64 = o.l ++ tokM 64)]
      have hb46 := bthen hb45 hb6
      have hz6 := hb46.size
      have ol6 := own_below ol3 hb46
      have H6 := Lib.hid (show Wd (colR (colR (colR (colR col W 50) w1.drew 50) w2.drew (c + 1 + 4 * k + 3)) w3 50) c w6 q pv rv lv mv N vl vm (upK x k Y) (upK x k Y) (B + 16777216) from h3.below hb46 (fun j hj => colR_old hj))
      have OU6 := Lib.hid (own_below ou3 hb46)
      have KP6 := Lib.hid (KP3.below hb46)
      clear h3 ov ou3 ol3 q3 q4 hb4 hb5 hb6 hb45 hb46 ol35 ol5 KP3 KP4 x6
      go_wp2
      go_loopw [21] (fun iv wr => ∃ (i : Nat) (l2 : List Int), i ≤ o.kn + 64 ∧ iv = .int .i64 (i : Int) ∧ l2.length = o.kn + 64 ∧ wr.ownsRow (W.heap.size + 1) 3 1 (.slice lA (o.kn + 64) lc) (o.kn + 64) (I64 l2) ∧ Kp (fun j => (Value.slice lA (o.kn + 64) lc).ownBlock = some j) w6 wr) (fun iv _ => o.kn + 64 - (intOf iv).toNat)
      case atStart => exact ⟨0, o.l ++ tokM 64, by omega, rfl, hlm, ol6, Kp.refl _ _⟩
      case round =>
        clear ol6
        obtain ⟨i, l2, hi, rfl, hl2, ol7, hk7⟩ := hrel
        by_cases hlt : i < o.kn + 64
        · have g4 : (i : Int) < ((o.kn + 64 : Nat) : Int) := by omega
          have g5 : (i : Int) < (o.kn : Int) + 64 := by omega
          have L2 := Lib.hid hl2
          obtain ⟨g, hg⟩ : ∃ g, lA = some ⟨g, 0, none⟩ := by
            rcases ol7.2 with ⟨_, h0⟩ | ⟨g, _, _, he, _⟩
            · omega
            · injection he with he _ _
              exact ⟨g, he⟩
          subst hg
          have y0 : wr.cell? ⟨g, i, none⟩ = some (.int .i64 (l2[i]'(by omega))) := by
            obtain ⟨g2, o2, he, hy⟩ := (own_rdv ol7).i64 i (by omega)
            injection he with he
            injection he with e1 e2
            subst e1 e2
            rwa [Nat.zero_add] at hy
          have z0 := World.ownsRow.frozenAt ol7 i
          have ea : (⟨g, 0, none⟩ : Addr).add i = ⟨g, i, none⟩ := by simpa using addr_add g 0 i
          have hr : (i : Int).tmod 2 = ((i % 2 : Nat) : Int) := by rw [Int.tmod_eq_emod_of_nonneg (by omega)]; omega
          have hst := World.ownsRow.stored ol7 i (.int .i64 (1 + ((i % 2 : Nat) : Int)))
          rw [← I64_set] at hst
          have NR := Lib.hid hst.1
          have NK := Lib.hid (show Kp (fun j => (Value.slice (some ⟨g, 0, none⟩) (o.kn + 64) lc).ownBlock = some j) w6 (wr.setCell ⟨g, i, none⟩ (.int .i64 (1 + ((i % 2 : Nat) : Int)))) from hk7.set g i _ (fun _ => rfl))
          have hm2 : i % 2 < 2 := Nat.mod_lt _ (by omega)
          clear hst ol7 hk7
          generalize i % 2 = im at *
          go_wp2
          go_roundw
          case rel => exact ⟨i + 1, l2.set i (1 + (im : Int)), by omega, by go_num, by simpa using L2.out, NR.out, NK.out⟩
          case measure => simp [intOf]; omega
        · obtain rfl : i = o.kn + 64 := by omega
          have g4 : ¬ ((o.kn + 64 : Nat) : Int) < ((o.kn + 64 : Nat) : Int) := by omega
          have colf : ∀ j, W.heap.size ≤ j → j < w2.heap.size → ¬ Mine (colR (colR (colR (colR col W 50) w1.drew 50) w2.drew (c + 1 + 4 * k + 3)) w3 50) c j := fun j hj hj2 hm => by
            refine N50.out j hj ?_
            unfold Mine at hm ⊢
            rwa [colR_old (by omega), colR_old (by omega)] at hm
          have h7 := H6.out.kp (col' := colR (colR (colR (colR col W 50) w1.drew 50) w2.drew (c + 1 + 4 * k + 3)) w3 50) hk7 (fun j hj hs => colf j (by have := LB.out j hs; omega) (by have := LB.out j hs; omega)) (fun j hj hm => rfl)
          have hul : ∀ j, (Value.slice uA O.length uc).ownBlock = some j → (Value.slice lA (o.kn + 64) lc).ownBlock ≠ some j := fun j hj e => by
            have := UB.out j hj
            have := LB.out j e
            omega
          have ou7 := own_base (ownKp OU6.out hk7 hul) (Nat.zero_le _)
          have hz7 := hk7.size
          have H7 := Lib.hid h7
          have OU7 := Lib.hid ou7
          have KP7 := Lib.hid (show Kp (Mine col c) W wr from KP6.out.step hk7 (fun j hj hs => absurd (LB.out j hs).1 (by omega)))
          clear h7 ou7 hk7 ol7
          go_wp2_with fail
          refine (H7.out.keep uA _ uc O OU7.out (fun j hj => colf j (by have := UB.out j hj; omega) (UB.out j hj).2) hlen hN).mono ?_
          rintro en w8 ⟨rfl, col8, lv8, mv8, vl8, vm8, h8, hc8, hk8⟩
          have OUT := Lib.hid (show DoesOut col c W q N (B + 16777216) (upK x k Y) w8 from by
            have old : ∀ j, j < W.heap.size → colR (colR (colR (colR col W 50) w1.drew 50) w2.drew (c + 1 + 4 * k + 3)) w3 50 j = col j := fun j hj => by
              rw [colR_old (by omega), colR_old (by omega), OLD2.out j hj]
            have nb : ∀ j, j < W.heap.size → (Value.slice uA O.length uc).ownBlock ≠ some j := fun j hj e => by
              have := (UB.out j e).1
              omega
            refine ⟨col8, pv, rv, lv8, mv8, N + 2, vl8, vm8, h8, Nat.le_refl _, fun j hj => (hc8 j (by omega) (nb j hj)).trans (old j hj), KP7.out.step hk8 (fun j hj hm => ?_)⟩
            rcases hm with hm | hm
            · exact (mine_eq (old j hj)).1 hm
            · exact absurd hm (nb j hj))
          clear h8 hc8 hk8
          have ee : (E == E) = true := by simp
          go_wp2
          go_returns
          exact ⟨rfl, OUT.out⟩
    clear aK
    go_region_law ((try go_simp); go_at_call 37; refine (H2.out.feedR hk o.K o.kn o.kc o.l KL.out hkn hB (fun w' hk' => (OP.out w' ((KP2.out.below (Below.refl _ _).drew).step hk' (fun j hj hm => (mine_eq (OLD2.out j hj)).1 hm))).k)).mono ?_; rintro en w3 ⟨v3, rfl, ov3, h3, hk3⟩; rw [FO.out] at ov3 h3; obtain ⟨vA3, vc3, rfl, _, _⟩ := own_rd ov3)
    all_goals (try rw [FO.out])
    all_goals go_wp2
    all_goals exact key23 _ _ _ _ (exists_frame rfl) ⟨h3, ov3, hk3⟩
  clear aK
  go_region_law ((try go_simp); go_at_call 18; refine (H1.out.feedP hk lA o.kn lc o.l KL.out hkn (Rd.pre (by rw [← I64_app]; exact own_rdv (show w1.drew.ownsRow _ 3 1 (.slice lA (o.kn + 64) lc) (o.kn + 64) (I64 (o.l ++ tokM 64)) from OL.out))) (fun b o2 he hp => mine_50 hc12 (by have := LB.out b (by rw [he]; rfl); omega))).mono ?_; rintro en w2 ⟨u2, rfl, ou2, hs2, hk2⟩; rw [FO.out] at ou2 hs2; obtain ⟨uA2, uc2, rfl, _, _⟩ := own_rd ou2)
  all_goals (try rw [FO.out])
  all_goals go_wp2
  all_goals exact key22 _ _ _ _ (exists_frame rfl) ⟨hs2 _ (fun j hj => colR_old hj), ou2, hk2⟩
end Go.Proofs.Ytcambbnmeiolgaa
