import Derived.Test.YtcambbnmeiolgaaCaE
namespace Go.Proofs.Ytcambbnmeiolgaa
open Go.RowKit
/-! does: a New -/
theorem SV_app (a b : List ByteArray) : SV (a ++ b) = SV a ++ SV b := by simp [SV]
theorem SV_set (l : List ByteArray) (i : Nat) (x : ByteArray) : SV (l.set i x) = (SV l).set i (.string x) := by simp [SV, List.map_set]
/-- what a New leaves -/
def DnOut (col : Nat → Nat) (c : Nat) (W : World) (q : Nat) (lv mv : Value) (N : Nat) (vl vm : List Value) (sp sr : Nat → Option Ss) (B : Nat) (w' : World) : Prop :=
  ∃ col' pv' rv', Wd col' c w' q pv' rv' lv mv N vl vm sp sr B ∧ (∀ j, j < W.heap.size → col' j = col j) ∧ Kp (Mine col c) W w'
set_option maxRecDepth 100000 in
set_option maxHeartbeats 8000000 in
theorem does_new {col : Nat → Nat} {c : Nat} {W : World} {q : Nat} {pv rv : Nat → Value} {lv mv : Value} {N : Nat} {vl vm : List Value} {sp sr : Nat → Option Ss} {B : Nat} (h : Wd col c W q pv rv lv mv N vl vm sp sr B) (o : OpT) (hop : ∀ w', Kp (Mine col c) W w' → OpOk w' o) (h4 : o.kind = 1) (k : Nat) (hk : k < 2) (ho : bits .and .i64 o.on 1 = (k : Int)) (hc12 : c ≤ 12) :
    Calls Try.prog 13 #[.pointer (some ⟨q, 0, none⟩), (.agg (opC o))] W fun en w' => en = .returned (.bool true) ∧ DnOut col c W q lv mv N vl vm (upK sp k (newS o.bs o.ps o.strs)) (upK sr k (newS o.bs o.ps o.strs)) B w' := by
  have hb0 : Below W.heap.size W (W.alloc (.cells (opC o) 41)) := by go_grown
  have q0 := Blk.new W (opC o) 41
  have hz0 : (W.alloc (.cells (opC o) 41)).heap.size = W.heap.size + 1 := by simp
  have hql := h.bk.lt
  have g1 : (k : Int) < 2 := by omega
  have a0 : (⟨q, 0, none⟩ : Addr).add k = ⟨q, k, none⟩ := by simpa using addr_add q 0 k
  have a2 : (⟨q, 0, none⟩ : Addr).add 2 = ⟨q, 2, none⟩ := by simpa using addr_add q 0 2
  have a3 : (⟨q, 2, none⟩ : Addr).add k = ⟨q, 2 + k, none⟩ := addr_add q 2 k
  have b2 : (⟨W.heap.size, 0, none⟩ : Addr).add 2 = ⟨W.heap.size, 2, none⟩ := by simpa using addr_add W.heap.size 0 2
  have b3 : (⟨W.heap.size, 2, none⟩ : Addr).add 1 = ⟨W.heap.size, 3, none⟩ := by simpa using addr_add W.heap.size 2 1
  have b4 : (⟨W.heap.size, 0, none⟩ : Addr).add 4 = ⟨W.heap.size, 4, none⟩ := by simpa using addr_add W.heap.size 0 4
  have hop0 := hop W (Kp.refl _ _)
  have OPB := Lib.hid (fun w' (hb : Below W.heap.size W w') => hop w' (.of_below hb))
  have hsb := hop0.sb
  have hsl := hop0.sl
  have hscp := hop0.sc
  have SL := Lib.hid hsl
  have VN := Lib.hid hop0.v.hn
  have VM := Lib.hid hop0.v.hm
  have VB1 := Lib.hid hop0.v.b1
  have VB2 := Lib.hid hop0.v.b2
  have WF := Lib.hid hop0.wf
  have hbn := hop0.bn
  have H := Lib.hid h
  clear h hop hop0 hsl
  go_enter Try.func13, Try.ntmps13
  go_wp2_with fail
  refine (copyVocab_any o.A o.A' o.n o.m o.a o.a' o.bs o.ps VN.out VM.out VB1.out VB2.out _ (OPB.out _ hb0).v.hx (OPB.out _ hb0).v.hy).mono ?_
  rintro en w1 ⟨v, u, rfl, ov, ou, hb1⟩
  obtain ⟨vA, vc, rfl, _, _⟩ := own_rd ov
  obtain ⟨uA, uc, rfl, _, _⟩ := own_rd ou
  have hz1 := hb1.size
  have c0 : (⟨w1.heap.size, 0, none⟩ : Addr).add 1 = ⟨w1.heap.size, 1, none⟩ := by simpa using addr_add w1.heap.size 0 1
  have q1 := q0.below hb1
  have HB1 := Lib.hid (bthen hb0 hb1)
  have hb2 : Below W.heap.size W (w1.alloc (.cells #[.slice vA o.n vc, .slice uA o.m uc] 37)) := HB1.out.alloc HB1.out.size _
  have y4 : (w1.alloc (.cells #[.slice vA o.n vc, .slice uA o.m uc] 37)).cell? ⟨W.heap.size, 4, none⟩ = some (.slice o.S o.sn o.sc) := (q1.alloc _).cell _
  have k1 := Blk.new w1 #[.slice vA o.n vc, .slice uA o.m uc] 37
  have hz2 : (w1.alloc (.cells #[.slice vA o.n vc, .slice uA o.m uc] 37)).heap.size = w1.heap.size + 1 := by simp
  go_wp2_with fail
  refine (words_any o.S o.sn o.sc o.strs SL.out hsb _ (OPB.out _ hb2).s).mono ?_
  rintro en w3 ⟨lv1, rfl, ol, hb3⟩
  obtain ⟨lA, lc, rfl, hlc, _⟩ := own_rd ol
  have hz3 := hb3.size
  have q3 := (q1.alloc (.cells #[.slice vA o.n vc, .slice uA o.m uc] 37)).below hb3
  have k3 := k1.below hb3
  have ov3 := own_below (ov.alloc (.cells #[.slice vA o.n vc, .slice uA o.m uc] 37)) hb3
  have ou3 := own_below (ou.alloc (.cells #[.slice vA o.n vc, .slice uA o.m uc] 37)) hb3
  have HB3 := Lib.hid (bthen hb2 hb3)
  have y5 : w3.cell? ⟨W.heap.size, 4, none⟩ = some (.slice o.S o.sn o.sc) := q3.cell _
  have y6 : w3.cell? ⟨w1.heap.size, 0, none⟩ = some (.slice vA o.n vc) := k3.cell _
  have y7 : w3.cell? ⟨w1.heap.size, 1, none⟩ = some (.slice uA o.m uc) := k3.cell _
  have y5' : w3.drew.cell? ⟨W.heap.size, 4, none⟩ = some (.slice o.S o.sn o.sc) := y5
  have y6' : w3.drew.cell? ⟨w1.heap.size, 0, none⟩ = some (.slice vA o.n vc) := y6
  have y7' : w3.drew.cell? ⟨w1.heap.size, 1, none⟩ = some (.slice uA o.m uc) := y7
  have g2 : (o.sn : Int) ≤ (lc : Int) := by omega
  have g3 : o.sn ≤ lc := by omega
  have Q3 := Lib.hid q3
  have K3 := Lib.hid k3
  have OV3 := Lib.hid ov3
  have OU3 := Lib.hid ou3
  have OL3 := Lib.hid ol
  have HZ := Lib.hid (show w1.heap.size < w3.heap.size ∧ W.heap.size < w1.heap.size by omega)
  have VOC3 := Lib.hid (show Voc w3.drew vA uA o.n o.m o.bs o.ps from ⟨VN.out, VM.out, VB1.out, VB2.out, own_rdv (show w3.drew.ownsRow _ 5 1 (.slice vA o.n vc) o.n (B8 o.bs) from ov3), own_rdv (show w3.drew.ownsRow _ 95 2 (.slice uA o.m uc) o.m (PR o.ps) from ou3)⟩)
  have RS3 := Lib.hid (show Rd w3.drew lA (o.strs.map Value.string) from Rd.pre (by rw [show o.strs.map Value.string = SV o.strs from rfl, ← SV_app]; exact own_rdv (show w3.drew.ownsRow _ 9 1 (.slice lA (o.sn + 64) lc) (o.sn + 64) (SV (o.strs ++ List.replicate 64 markS)) from ol)))
  clear q0 q1 q3 k1 k3 ov ou ov3 ou3 ol hb0 hb1 hb2 hb3 y4
  go_wp2
  rename_i KK aK
  have key6 : ∀ (a : Act) (w4 : World) (P : Option Addr), (∃ us : Nat → Value, a = { tmps := #[.pointer (some ⟨q, 0, none⟩), us 1, us 2, .pointer (some ⟨W.heap.size, 0, none⟩), us 4, .int .i64 (k : Int), .pointer (some ⟨w1.heap.size, 0, none⟩), .slice lA (o.sn + 64) lc, .pointer P, .int .i64 (newE o.bs o.ps o.strs), us 10, us 11, us 12, us 13, us 14, us 15, us 16, us 17, us 18, us 19, us 20, us 21, us 22, us 23, us 24, us 25, us 26, us 27, us 28, us 29, us 30, us 31, us 32, us 33, us 34, us 35, us 36, us 37, us 38, us 39, us 40, us 41, us 42, us 43, us 44, us 45, us 46, us 47, us 48, us 49, us 50, us 51, us 52, us 53, us 54, us 55, us 56, us 57, us 58, us 59, us 60, us 61, us 62, us 63, us 64, us 65, us 66, us 67, us 68, us 69, us 70, us 71, us 72, us 73, us 74, us 75, us 76, us 77, us 78, us 79, us 80, us 81, us 82, us 83, us 84, us 85, us 86, us 87, us 88, us 89, us 90, us 91, us 92, us 93, us 94, us 95, us 96, us 97, us 98, us 99, us 100, us 101, us 102, us 103, us 104, us 105, us 106, us 107, us 108, us 109, us 110, us 111, us 112, us 113, us 114, us 115, us 116, us 117, us 118, us 119, us 120, us 121, us 122, us 123, us 124, us 125, us 126, us 127, us 128, us 129, us 130, us 131, us 132, us 133, us 134, us 135, us 136, us 137, us 138, us 139, us 140, us 141, us 142, us 143, us 144, us 145, us 146, us 147, us 148, us 149, us 150, us 151, us 152, us 153, us 154, us 155, us 156, us 157, us 158, us 159, us 160, us 161, us 162, us 163, us 164, us 165, us 166, us 167, us 168, us 169, us 170, us 171, us 172, us 173, us 174, us 175, us 176, us 177, us 178, us 179, us 180, us 181, us 182, us 183, us 184, us 185, us 186, us 187, us 188, us 189, us 190, us 191, us 192, us 193, us 194, us 195, us 196, us 197, us 198, us 199, us 200, us 201, us 202, us 203, us 204, us 205, us 206, us 207, us 208, us 209, us 210, us 211, us 212, us 213, us 214], defers := [] }) → (Below w3.drew.heap.size w3.drew w4 ∧ (P = none ↔ newE o.bs o.ps o.strs ≠ 0) ∧ (∀ (col' : Nat → Nat) (d : Nat), (∀ j, w3.drew.heap.size ≤ j → col' j = if P = some ⟨j, 0, none⟩ then d else d + 1) → SlotP col' d w4 (newS o.bs o.ps o.strs) (.pointer P))) → KK a w4 := by
    rintro a w4 P ⟨us, rfl⟩ ⟨hb4, hP, hsP⟩
    refine aK _ _ ?_
    clear aK y5 y6 y7 y5' y6' y7'
    have hb34 : Below w3.heap.size w3 w4 := ⟨hb4.os, hb4.tape, hb4.output, hb4.size, hb4.block⟩
    have hz4 := hb34.size
    have HB4 := Lib.hid (bthen HB3.out hb34)
    have q4 := Q3.out.below hb34
    have z2 : w4.cell? ⟨W.heap.size, 2, none⟩ = some (.slice o.A o.n o.a) := q4.cell _
    have z3 : w4.cell? ⟨W.heap.size, 3, none⟩ = some (.slice o.A' o.m o.a') := q4.cell _
    have z4 : w4.cell? ⟨W.heap.size, 4, none⟩ = some (.slice o.S o.sn o.sc) := q4.cell _
    go_wp2_with fail
    refine (newR_slot o.A o.A' o.S o.n o.m o.sn o.a o.a' o.sc o.bs o.ps o.strs w4 B (OPB.out _ HB4.out).v WF.out SL.out (OPB.out _ HB4.out).s (by omega)).mono ?_
    rintro en w5 ⟨R, rfl, hb5, hR, hsR⟩
    have hz5 := hb5.size
    have hb35 := bthen hb34 hb5
    have HB5 := Lib.hid (bthen HB4.out hb5)
    have HB45 := Lib.hid hb5
    have q5 := q4.below hb5
    have k5 := K3.out.below hb35
    have ov5 := own_below OV3.out hb35
    have ou5 := own_below OU3.out hb35
    have ol5 := own_below OL3.out hb35
    have t2 : w5.cell? ⟨W.heap.size, 2, none⟩ = some (.slice o.A o.n o.a) := q5.cell _
    have t3 : w5.cell? ⟨W.heap.size, 3, none⟩ = some (.slice o.A' o.m o.a') := q5.cell _
    have t0 : w5.cell? ⟨w1.heap.size, 0, none⟩ = some (.slice vA o.n vc) := k5.cell _
    have t1 : w5.cell? ⟨w1.heap.size, 1, none⟩ = some (.slice uA o.m uc) := k5.cell _
    clear z2 z3 z4 q4 hb34
    go_wp2_with fail
    refine (eqVocab_any vA uA o.A o.A' o.n o.m o.n o.m vc uc o.a o.a' o.bs o.bs o.ps o.ps w5 ⟨VN.out, VM.out, VB1.out, VB2.out, own_rdv ov5, own_rdv ou5⟩ (OPB.out _ HB5.out).v).mono ?_
    rintro en w6 ⟨rfl, hb6⟩
    rw [decide_eq_true (show o.bs = o.bs ∧ o.ps = o.ps from ⟨rfl, rfl⟩)]
    have HB6 := Lib.hid (bthen HB5.out hb6)
    have q6 := q5.below hb6
    have z4 : w6.cell? ⟨W.heap.size, 4, none⟩ = some (.slice o.S o.sn o.sc) := q6.cell _
    go_wp2_with fail
    refine (words_any o.S o.sn o.sc o.strs SL.out hsb _ (OPB.out _ HB6.out).s).mono ?_
    rintro en w7 ⟨lv2, rfl, ol7, hb7⟩
    obtain ⟨lA2, lc2, rfl, _, _⟩ := own_rd ol7
    have hb57 := bthen hb6 hb7
    have hlm : (o.strs ++ List.replicate 64 markS).length = o.sn + 64 := by rw [List.length_append, SL.out]; simp
    go_wp2_with fail
    refine (eqWords_same lA lA2 (o.sn + 64) lc lc2 (o.strs ++ List.replicate 64 markS) hlm (by omega) w7 (own_rdv (own_below ol5 hb57)) (own_rdv ol7)).mono ?_
    rintro en w8 ⟨rfl, hb8⟩
    have hb58 := bthen hb57 hb8
    have hz8 := hb58.size
    have k8 := k5.below hb58
    have ov8 := own_below ov5 hb58
    have ol8 := own_below ol5 hb58
    have HB8 := Lib.hid (bthen HB5.out hb58)
    have HB58 := Lib.hid hb58
    have VBK := Lib.hid (show ∀ j, (Value.slice vA o.n vc).ownBlock = some j → W.heap.size < j ∧ j < w3.heap.size from fun j hj => by have h1 := own_lt OV3.out j hj; omega)
    have LBK := Lib.hid (show ∀ j, (Value.slice lA (o.sn + 64) lc).ownBlock = some j → W.heap.size < j ∧ j < w3.heap.size from fun j hj => by have h1 := own_lt OL3.out j hj; have h2 := HZ.out; omega)
    have NE5 := Lib.hid (show ∀ j, (Value.slice vA o.n vc).ownBlock = some j → j ≠ w1.heap.size from fun j hj e => k8.not_row (by decide) ov8 (by rw [hj, e]))
    have K8 := Lib.hid k8
    have OL8 := Lib.hid ol8
    clear k8 k5 q5 q6 ov5 ou5 ol5 ol7 hb6 hb7 hb8 hb57 hb58 z4 t0 t1 t2 t3 ol8
    go_wp2
    go_loopw [13] (fun iv wr => ∃ (i : Nat) (l2 : List Int), i ≤ o.n ∧ iv = .int .i64 (i : Int) ∧ l2.length = o.n ∧ wr.ownsRow (W.heap.size + 1) 5 1 (.slice vA o.n vc) o.n (B8 l2) ∧ Kp (fun j => (Value.slice vA o.n vc).ownBlock = some j) w8 wr) (fun iv _ => o.n - (intOf iv).toNat)
    case atStart => exact ⟨0, o.bs, by omega, rfl, VN.out, by rw [hz0] at ov8; exact ov8, Kp.refl _ _⟩
    case round =>
      clear ov8
      obtain ⟨i, l2, hi, rfl, hl2, ov9, hk9⟩ := hrel
      have k9 : Blk wr w1.heap.size #[.slice vA o.n vc, .slice uA o.m uc] 37 := K8.out.kp hk9 (fun e => NE5.out _ e rfl)
      have t0 : wr.cell? ⟨w1.heap.size, 0, none⟩ = some (.slice vA o.n vc) := k9.cell _
      by_cases hlt : i < o.n
      · have g4 : (i : Int) < (o.n : Int) := by omega
        have L2 := Lib.hid hl2
        obtain ⟨g, hg⟩ : ∃ g, vA = some ⟨g, 0, none⟩ := by
          rcases ov9.2 with ⟨_, h0⟩ | ⟨g, _, _, he, _⟩
          · omega
          · injection he with he _ _
            exact ⟨g, he⟩
        subst hg
        have y0 : wr.cell? ⟨g, i, none⟩ = some (.int .u8 (l2[i]'(by omega))) := by
          obtain ⟨g2, o2, he, hy⟩ := (own_rdv ov9).b8 i (by omega)
          injection he with he
          injection he with e1 e2
          subst e1 e2
          rwa [Nat.zero_add] at hy
        have z0 := World.ownsRow.frozenAt ov9 i
        have ea : (⟨g, 0, none⟩ : Addr).add i = ⟨g, i, none⟩ := by simpa using addr_add g 0 i
        have hst := World.ownsRow.stored ov9 i (.int .u8 122)
        rw [← B8_set] at hst
        have NR := Lib.hid hst.1
        have NK := Lib.hid (show Kp (fun j => (Value.slice (some ⟨g, 0, none⟩) o.n vc).ownBlock = some j) w8 (wr.setCell ⟨g, i, none⟩ (.int .u8 122)) from hk9.set g i _ (fun _ => rfl))
        clear hst ov9 hk9 k9
        go_wp2
        go_roundw
        case rel => exact ⟨i + 1, l2.set i 122, by omega, by go_num, by simpa using L2.out, NR.out, NK.out⟩
        case measure => simp [intOf]; omega
      · obtain rfl : i = o.n := by omega
        have g4 : ¬ (o.n : Int) < (o.n : Int) := by omega
        have VL := Lib.hid (show ∀ j, (Value.slice lA (o.sn + 64) lc).ownBlock = some j → (Value.slice vA o.n vc).ownBlock ≠ some j from fun j hj e => by
          have h1 := own_lt OL3.out j hj
          have h2 := own_lt OV3.out j e
          rcases own_type_ne OV3.out OL3.out (by decide) with h | h
          · rw [h] at e; cases e
          · exact h (e.trans hj.symm))
        have ol9 := ownKp OL8.out hk9 (fun j hj e => VL.out j hj e)
        have K9 := Lib.hid hk9
        clear k9 ov9 hk9
        go_wp2
        clear t0
        generalize wr = wB at *
        go_loopw [14] (fun iv wr2 => ∃ (i : Nat) (l3 : List ByteArray), i ≤ o.sn + 64 ∧ iv = .int .i64 (i : Int) ∧ l3.length = o.sn + 64 ∧ wr2.ownsRow 0 9 1 (.slice lA (o.sn + 64) lc) (o.sn + 64) (SV l3) ∧ Kp (fun j => (Value.slice lA (o.sn + 64) lc).ownBlock = some j) wB wr2) (fun iv _ => o.sn + 64 - (intOf iv).toNat)
        case atStart => exact ⟨0, _, by omega, rfl, hlm, own_base ol9 (Nat.zero_le _), Kp.refl _ _⟩
        case round =>
          clear ol9
          obtain ⟨i, l3, hi3, rfl, hl3, olA, hkA⟩ := hrel
          by_cases hlt : i < o.sn + 64
          · have g5 : (i : Int) < ((o.sn + 64 : Nat) : Int) := by omega
            have g6 : (i : Int) < (o.sn : Int) + 64 := by omega
            have L3 := Lib.hid hl3
            obtain ⟨g, hg⟩ : ∃ g, lA = some ⟨g, 0, none⟩ := by
              rcases olA.2 with ⟨_, h0⟩ | ⟨g, _, _, he, _⟩
              · omega
              · injection he with he _ _
                exact ⟨g, he⟩
            subst hg
            have y0 : wr.cell? ⟨g, i, none⟩ = some (.string (l3[i]'(by omega))) := by
              obtain ⟨g2, o2, he, hy⟩ := (own_rdv olA).at i (by unfold SV; rw [List.length_map]; omega)
              injection he with he
              injection he with e1 e2
              subst e1 e2
              rw [Nat.zero_add] at hy
              rw [hy]
              unfold SV
              rw [List.getElem_map]
            have z0 := World.ownsRow.frozenAt olA i
            have ea : (⟨g, 0, none⟩ : Addr).add i = ⟨g, i, none⟩ := by simpa using addr_add g 0 i
            have hst := World.ownsRow.stored olA i (.string ⟨#[97]⟩)
            rw [← SV_set] at hst
            have NR := Lib.hid hst.1
            have NK := Lib.hid (show Kp (fun j => (Value.slice (some ⟨g, 0, none⟩) (o.sn + 64) lc).ownBlock = some j) wB (wr.setCell ⟨g, i, none⟩ (.string ⟨#[97]⟩)) from hkA.set g i _ (fun _ => rfl))
            clear hst olA hkA
            go_wp2
            go_roundw
            case rel => exact ⟨i + 1, l3.set i ⟨#[97]⟩, by omega, by go_num, by simpa using L3.out, NR.out, NK.out⟩
            case measure => simp [intOf]; omega
          · obtain rfl : i = o.sn + 64 := by omega
            have g5 : ¬ ((o.sn + 64 : Nat) : Int) < ((o.sn + 64 : Nat) : Int) := by omega
            have FIN := Lib.hid (show ∃ col', Wd col' c wr q pv rv lv mv N vl vm sp sr B ∧ SlotP col' (c + 1 + 4 * k) wr (newS o.bs o.ps o.strs) (.pointer P) ∧ SlotR col' (c + 1 + 4 * k) wr (newS o.bs o.ps o.strs) B (.pointer R) ∧ (∀ j, j < W.heap.size → col' j = col j) ∧ Kp (Mine col c) W wr from by
              obtain ⟨d, hd⟩ : ∃ d, d = c + 1 + 4 * k := ⟨_, rfl⟩
              rw [← hd]
              have hz3d : w3.drew.heap.size = w3.heap.size := rfl
              obtain ⟨c4, hc4⟩ : ∃ c4 : Nat → Nat, c4 = fun j => if j < w3.heap.size then colR col W 50 j else if P = some ⟨j, 0, none⟩ then d else d + 1 := ⟨_, rfl⟩
              obtain ⟨c5, hc5⟩ : ∃ c5 : Nat → Nat, c5 = fun j => if j < w4.heap.size then c4 j else if R = some ⟨j, 0, none⟩ then d + 2 else d + 1 := ⟨_, rfl⟩
              have e4 : ∀ j, w3.drew.heap.size ≤ j → c4 j = if P = some ⟨j, 0, none⟩ then d else d + 1 := fun j hj => by rw [hc4]; dsimp only; rw [if_neg (by omega)]
              have e5 : ∀ j, w4.heap.size ≤ j → c5 j = if R = some ⟨j, 0, none⟩ then d + 2 else d + 1 := fun j hj => by rw [hc5]; dsimp only; rw [if_neg (by omega)]
              have f4 : ∀ j, j < w4.heap.size → c5 j = c4 j := fun j hj => by rw [hc5]; dsimp only; rw [if_pos hj]
              have f3 : ∀ j, j < w3.heap.size → c4 j = colR col W 50 j := fun j hj => by rw [hc4]; dsimp only; rw [if_pos hj]
              have sP := hsP c4 d e4
              have sR := hsR c5 d e5
              have n50 : ∀ j, W.heap.size < j → j < w3.heap.size → colR c5 w5 50 j = 50 := fun j hj hj3 => by rw [colR_old (by omega), f4 j (by omega), f3 j hj3, colR_new (by omega)]
              have old : ∀ j, j < W.heap.size → colR c5 w5 50 j = col j := fun j hj => by rw [colR_old (by omega), f4 j (by omega), f3 j (by omega), colR_old hj]
              have sP8 := SlotP.kp (col' := colR c5 w5 50) sP (S := fun _ => False) (.of_below (bthen HB45.out HB58.out)) (fun _ _ h => h.elim) (fun j hj _ => by rw [colR_old (by omega), f4 j hj])
              have sR8 := SlotR.kp (col' := colR c5 w5 50) sR (S := fun _ => False) (.of_below HB58.out) (fun _ _ h => h.elim) (fun j hj _ => colR_old hj)
              have h8 := H.out.below (col' := colR c5 w5 50) HB8.out old
              have hv : ∀ j, (Value.slice vA o.n vc).ownBlock = some j → colR c5 w5 50 j = 50 := fun j hj => n50 j (VBK.out j hj).1 (VBK.out j hj).2
              have hl : ∀ j, (Value.slice lA (o.sn + 64) lc).ownBlock = some j → colR c5 w5 50 j = 50 := fun j hj => n50 j (LBK.out j hj).1 (LBK.out j hj).2
              refine ⟨colR c5 w5 50, ?_, ?_, ?_, old, ?_⟩
              · exact (h8.kp (col' := colR c5 w5 50) K9.out (fun j _ hj => by unfold Mine; have := hv j hj; omega) (fun _ _ _ => rfl)).kp hkA (fun j _ hj => by unfold Mine; have := hl j hj; omega) (fun _ _ _ => rfl)
              · exact (SlotP.kp (col' := colR c5 w5 50) sP8 K9.out (fun j _ hj => by have := hv j hj; omega) (fun _ _ _ => rfl)).kp hkA (fun j _ hj => by have := hl j hj; omega) (fun _ _ _ => rfl)
              · exact (SlotR.kp (col' := colR c5 w5 50) sR8 K9.out (fun j _ hj => by have := hv j hj; omega) (fun _ _ _ => rfl)).kp hkA (fun j _ hj => by have := hl j hj; omega) (fun _ _ _ => rfl)
              · exact ((Kp.of_below HB8.out).step K9.out (fun j hj hs => absurd (VBK.out j hs).1 (by omega))).step hkA (fun j hj hs => absurd (LBK.out j hs).1 (by omega)))
            clear olA hkA hsP hsR
            obtain ⟨col', hW, sP, sR, hold, hkp⟩ := FIN.out
            have x0 : wr.cell? ⟨q, k, none⟩ = some (pv k) := (hW.bk.cell _).trans (wc_at hk).1
            have z0 := hW.bk.frozen k
            have kb := hW.bk.set k (.pointer P)
            have x1 : ∃ u, (wr.setCell ⟨q, k, none⟩ (.pointer P)).cell? ⟨q, 2 + k, none⟩ = some u := by
              rw [kb.cell]
              match k, hk with
              | 0, _ => exact ⟨_, rfl⟩
              | 1, _ => exact ⟨_, rfl⟩
            obtain ⟨u1, x1⟩ := x1
            have z1 := kb.frozen (2 + k)
            have OUT := Lib.hid (show DnOut col c W q lv mv N vl vm (upK sp k (newS o.bs o.ps o.strs)) (upK sr k (newS o.bs o.ps o.strs)) B ((wr.setCell ⟨q, k, none⟩ (.pointer P)).setCell ⟨q, 2 + k, none⟩ (.pointer R)) from by
              have hm : Mine col c q := by unfold Mine; have := H.out.cq; omega
              exact ⟨col', _, _, hW.setS hk sP sR, hold, (hkp.set q k _ (fun _ => hm)).set q (2 + k) _ (fun _ => hm)⟩)
            clear hW sP sR hold hkp kb FIN
            have ee : (newE o.bs o.ps o.strs == newE o.bs o.ps o.strs) = true := by simp
            generalize newE o.bs o.ps o.strs = EE at *
            rcases P with _ | ap
            · rcases R with _ | ar
              · go_wp2
                go_returns
                exact ⟨rfl, OUT.out⟩
              · exact absurd (hR.2 (hP.1 rfl)) (by simp)
            · rcases R with _ | ar
              · exact absurd (hP.2 (hR.1 rfl)) (by simp)
              · go_wp2
                go_returns
                exact ⟨rfl, OUT.out⟩
  clear aK
  go_region_law ((try go_simp); go_at_call 16; refine (newP_slot vA uA lA o.n o.m o.sn vc uc lc o.bs o.ps o.strs _ VOC3.out WF.out SL.out RS3.out (by omega)).mono ?_; rintro en w4 ⟨P, rfl, hb4, hP, hsP⟩)
  all_goals go_wp2
  all_goals exact key6 _ _ _ (exists_frame rfl) ⟨hb4, hP, hsP⟩
end Go.Proofs.Ytcambbnmeiolgaa
