import Derived.Test.YtcambbnmeiolgaaApaP
namespace Go.Proofs.Ytcambbnmeiolgaa
open Go.RowKit
def nA (q k : Nat) : Nat := if k = 0 then 0 else q
def nB (q k : Nat) : Nat := if k = 2 then q else 0
theorem q3_eq {α : Type} (a b c d e : α) : ∀ i, i < 4 → upd (quad a b c d) 3 e i = quad a b c e i := by
  intro i hi
  match i, hi with
  | 0, _ => rfl
  | 1, _ => rfl
  | 2, _ => rfl
  | 3, _ => rfl
theorem Fam.congr {w w6 : World} {p : Nat → Nat} {v : Nat → Value × Value} {wds : List (List Int)} {s : Nat → List ByteArray} {gq hq : Nat} {wr : World} {ga ha : Array Value} {tv tv' : Nat → Value} {t t' : Nat → List Int} {x x' : Nat → List UInt8 × Bool} (h : Fam w w6 p v wds s gq hq wr ga ha tv t x) (h1 : ∀ i, i < 4 → tv i = tv' i) (h2 : ∀ i, i < 4 → t i = t' i) (h3 : ∀ i, i < 4 → x i = x' i) : Fam w w6 p v wds s gq hq wr ga ha tv' t' x' :=
  ⟨h.ne, h.lo, h.lw, h.st, h.bk, h.sz, h.kp, fun i hi => by rw [← h3 i hi]; exact h.c i hi, fun j hj => by rw [← h1 j hj, ← h2 j hj]; exact h.r j hj, fun j k hj hk => by rw [← h1 j hj, ← h1 k hk]; exact h.ap j k hj hk, fun i hi => by rw [← h3 i hi]; exact h.tl i hi, h.bl, h.g, h.h, h.gz, h.hz, h.gh⟩
theorem undrew {w w' : World} (h : Below w.drew.heap.size w.drew w') : Below w.heap.size w w' := ⟨h.os, h.tape, h.output, h.size, h.block⟩
theorem new_ok (A A' S : Option Addr) (n m sn c c' sc : Nat) (bs : List Int) (ps : List (Int × Int)) (strs : List ByteArray) (w : World) (hv : Voc w A A' n m bs ps) (hwf : Wf bs ps) (hl : strs.length = sn) (hr : Rd w S (strs.map Value.string)) (hsn : sn ≤ 140737488355328) (h0 : newE bs ps strs = 0) :
    Calls Try.prog 16 #[.agg #[.slice A n c, .slice A' m c'], .slice S sn sc] w fun e w' => Below w.heap.size w w' ∧ ∃ p, w.heap.size ≤ p ∧ e = .returned (.tuple #[.pointer (some ⟨p, 0, none⟩), .int .i64 0]) ∧ Strm w' p (toks bs ps) strs [] false ∧ p < w'.heap.size := by
  refine (new_any A A' S n m sn c c' sc bs ps strs w hv hwf hl hr hsn).mono ?_
  rintro e w' ⟨hb, (⟨h, _⟩ | ⟨_, p, hp, rfl, hs⟩)⟩
  · exact absurd h0 h
  · exact ⟨hb, p, hp, rfl, hs, hs.lt⟩
theorem new_bad (A A' S : Option Addr) (n m sn c c' sc : Nat) (bs : List Int) (ps : List (Int × Int)) (strs : List ByteArray) (w : World) (hv : Voc w A A' n m bs ps) (hwf : Wf bs ps) (hl : strs.length = sn) (hr : Rd w S (strs.map Value.string)) (hsn : sn ≤ 140737488355328) (k : Int) (hk : newE bs ps strs = k) (h0 : k ≠ 0) :
    Calls Try.prog 16 #[.agg #[.slice A n c, .slice A' m c'], .slice S sn sc] w fun e w' => Below w.heap.size w w' ∧ e = .returned (.tuple #[.pointer none, .int .i64 k]) := by
  subst hk
  refine (new_any A A' S n m sn c c' sc bs ps strs w hv hwf hl hr hsn).mono ?_
  rintro e w' ⟨hb, (⟨_, rfl⟩ | ⟨h, _⟩)⟩
  · exact ⟨hb, rfl⟩
  · exact absurd h h0
set_option maxRecDepth 100000 in
set_option maxHeartbeats 40000000 in
/-- TextApart -/
theorem apart_law (A A' S1 S2 Q : Option Addr) (n m sn tn qn c c' sc tc qc : Nat) (bs : List Int) (ps : List (Int × Int)) (one two : List ByteArray) (ys : List PcT) (w : World) (hv : Voc w A A' n m bs ps) (hwf : Wf bs ps) (h1 : one.length = sn) (r1 : Rd w S1 (one.map Value.string)) (hsn : sn ≤ 140737488355328) (h2 : two.length = tn) (r2 : Rd w S2 (two.map Value.string)) (htn : tn ≤ 140737488355328) (hq : ys.length = qn) (hqn : qn ≤ 1048576)
    (rq : ∀ (i : Nat) (hi : i < ys.length), ∃ b o, Q = some ⟨b, o, none⟩ ∧ w.cell? ⟨b, o + i * 2, none⟩ = some (.bool ys[i].on) ∧ w.cell? ⟨b, o + i * 2 + 1, none⟩ = some (.slice ys[i].A ys[i].n ys[i].c) ∧ ys[i].l.length = ys[i].n ∧ ys[i].n ≤ 1048576 ∧ Rd w ys[i].A (I64 ys[i].l)) :
    Calls Try.prog 5 #[.agg #[.slice A n c, .slice A' m c'], .slice S1 sn sc, .slice S2 tn tc, .slice Q qn qc] w fun e w' => e = .returned (.bool true) ∧ Below w.heap.size w w' := by
  have h0 : Below w.heap.size w (w.alloc (.cells #[.slice A n c, .slice A' m c'] 37)) := by go_grown
  have q0 := Blk.new w #[.slice A n c, .slice A' m c'] 37
  have RQ := Lib.hid rq
  have HV := Lib.hid hv
  have Y16 := Lib.hid (show ∀ y ∈ ys, y.l.length ≤ 1048576 from fun y hy => by obtain ⟨i, hi, rfl⟩ := List.mem_iff_getElem.1 hy; obtain ⟨_, _, _, _, _, e1, e2, _⟩ := rq i hi; omega)
  clear rq
  go_enter Try.func5, Try.ntmps5
  go_wp2_with fail
  refine (long_any _ _).mono ?_
  rintro e w1 ⟨rfl, rfl⟩
  have g1 : ¬ (2147483647 : Int) < qn := by omega
  go_wp2_with fail
  refine (fixed_any _).mono ?_
  rintro e w2 ⟨rfl, hb⟩
  replace q0 := q0.below hb
  replace hb := bthen h0 hb
  have hl2 := q0.lt
  have y0 : w2.cell? ⟨w.heap.size, 0, none⟩ = some (.slice A n c) := q0.cell _
  have y1 : w2.cell? ⟨w.heap.size, 1, none⟩ = some (.slice A' m c') := q0.cell _
  clear h0
  by_cases e1 : newE bs ps one = 0
  · have N1 := Lib.hid (fun (w' : World) (hb : Below w.heap.size w w') => new_ok A A' S1 n m sn c c' sc bs ps one w' (hv.below hb) hwf h1 (r1.below hb) hsn e1)
    by_cases e2 : newE bs ps two = 0
    · have N2 := Lib.hid (fun (w' : World) (hb : Below w.heap.size w w') => new_ok A A' S2 n m tn c c' tc bs ps two w' (hv.below hb) hwf h2 (r2.below hb) htn e2)
      have htk := newE_some e1
      clear e1 e2 hv r1 r2
      go_wp2_with fail
      refine (N1.out _ hb).mono ?_
      rintro e v0 ⟨hbn, p0, hp0, rfl, hs0, hl0⟩
      replace q0 := q0.below hbn
      replace hb := bthen hb hbn
      clear hbn y0 y1
      have y0 : v0.cell? ⟨w.heap.size, 0, none⟩ = some (.slice A n c) := q0.cell _
      have y1 : v0.cell? ⟨w.heap.size, 1, none⟩ = some (.slice A' m c') := q0.cell _
      go_wp2_with fail
      refine (N2.out _ hb).mono ?_
      rintro e v1 ⟨hbn, p1, hp1, rfl, hs1, hl1⟩
      replace q0 := q0.below hbn
      replace hb := bthen hb hbn
      replace hs0 := hs0.below hbn
      clear hbn y0 y1
      have y0 : v1.cell? ⟨w.heap.size, 0, none⟩ = some (.slice A n c) := q0.cell _
      have y1 : v1.cell? ⟨w.heap.size, 1, none⟩ = some (.slice A' m c') := q0.cell _
      go_wp2_with fail
      refine (N1.out _ hb).mono ?_
      rintro e v2 ⟨hbn, p2, hp2, rfl, hs2, hl2⟩
      replace q0 := q0.below hbn
      replace hb := bthen hb hbn
      replace hs0 := hs0.below hbn
      replace hs1 := hs1.below hbn
      clear hbn y0 y1
      have y0 : v2.cell? ⟨w.heap.size, 0, none⟩ = some (.slice A n c) := q0.cell _
      have y1 : v2.cell? ⟨w.heap.size, 1, none⟩ = some (.slice A' m c') := q0.cell _
      go_wp2_with fail
      refine (N2.out _ hb).mono ?_
      rintro e v3 ⟨hbn, p3, hp3, rfl, hs3, hl3⟩
      replace q0 := q0.below hbn
      replace hb := bthen hb hbn
      replace hs0 := hs0.below hbn
      replace hs1 := hs1.below hbn
      replace hs2 := hs2.below hbn
      clear hbn y0 y1
      have y0 : v3.cell? ⟨w.heap.size, 0, none⟩ = some (.slice A n c) := q0.cell _
      have y1 : v3.cell? ⟨w.heap.size, 1, none⟩ = some (.slice A' m c') := q0.cell _
      obtain ⟨v, hT0⟩ := fam_new hb hs0 hs1 hs2 hs3 (by omega) (by omega) (by omega) (by omega)
      have Q0 := Lib.hid q0
      have hw0 : w.heap.size < p0 := by omega
      have hw1 : w.heap.size < p1 := by omega
      have hw2 : w.heap.size < p2 := by omega
      have hw3 : w.heap.size < p3 := by omega
      have PNE := Lib.hid (show ∀ i, i < 4 → w.heap.size ≠ quad p0 p1 p2 p3 i from fun i hi => by match i, hi with | 0, _ => exact Nat.ne_of_lt hw0 | 1, _ => exact Nat.ne_of_lt hw1 | 2, _ => exact Nat.ne_of_lt hw2 | 3, _ => exact Nat.ne_of_lt hw3)
      clear hs0 hs1 hs2 hs3 hb N1 N2 y0 y1 hp0 hp1 hp2 hp3 hl0 hl1 hl2 hl3 q0
      obtain ⟨w6, hw6⟩ : ∃ w6, w6 = v3 := ⟨_, rfl⟩
      subst hw6
      obtain ⟨wds, hwds⟩ : ∃ wds, toks bs ps = wds := ⟨_, rfl⟩
      have SZ := Lib.hid hwds
      rw [hwds] at hT0 htk
      clear hwds
      have HLA := Lib.hid (fun i => cutK_len (N := wds.length) (sts := one.map lst) (hT0.st 0 (by omega)).lens (fun x hx => ((hT0.st 0 (by omega)).w16 x hx).1) Y16.out (by omega) false i)
      have HLB := Lib.hid (fun i => cutK_len (N := wds.length) (sts := two.map lst) (hT0.st 1 (by omega)).lens (fun x hx => ((hT0.st 0 (by omega)).w16 x hx).1) Y16.out (by omega) true i)
      go_wp2
      go_loopw [20, 21, 22, 23, 24, 25] (fun iv _ _ _ _ _ wr => ∃ (i : Nat) (a b : Value), i ≤ qn ∧ iv = .int .i64 (i : Int) ∧ Fam w w6 (quad p0 p1 p2 p3) v wds (quad one two one two) w6.heap.size (w6.heap.size + 1) wr #[a, b] #[.slice none 0 0, .slice none 0 0] (quad a b (.slice none 0 0) (.slice none 0 0)) (quad (cutK wds.length (one.map lst) wds ys false i).2.1 (cutK wds.length (two.map lst) wds ys true i).2.1 [] []) (quad ((cutK wds.length (one.map lst) wds ys false i).1, (cutK wds.length (one.map lst) wds ys false i).2.2) ((cutK wds.length (two.map lst) wds ys true i).1, (cutK wds.length (two.map lst) wds ys true i).2.2) ([], false) ([], false))) (fun iv _ _ _ _ _ _ => qn - (intOf iv).toNat)
      case atStart => exact ⟨0, _, _, by omega, rfl, hT0⟩
      case round =>
        obtain ⟨i, a, b, hi, rfl, hT⟩ := hrel
        obtain ⟨aA, ac, rfl, _, _⟩ := own_rd (show wr.ownsRow w6.heap.size 5 1 a (cutK wds.length (one.map lst) wds ys false i).2.1.length (B8 (cutK wds.length (one.map lst) wds ys false i).2.1) from hT.r 0 (by omega))
        obtain ⟨bA, bc, rfl, _, _⟩ := own_rd (show wr.ownsRow w6.heap.size 5 1 b (cutK wds.length (two.map lst) wds ys true i).2.1.length (B8 (cutK wds.length (two.map lst) wds ys true i).2.1) from hT.r 1 (by omega))
        by_cases hlt : i < qn
        · have g2 : (i : Int) < (qn : Int) := by omega
          obtain ⟨qb, qo, hQ, y2, y3, l1, l2, rl⟩ := RQ.out i (by omega)
          subst hQ
          replace y2 := (World.cell?_of_block (hT.bl.block qb (World.block_lt_of_cell? w _ y2))).trans y2
          replace y3 := (World.cell?_of_block (hT.bl.block qb (World.block_lt_of_cell? w _ y3))).trans y3
          replace rl := rl.below hT.bl
          have hbx : Blk wr w.heap.size #[.slice A n c, .slice A' m c'] 37 := Eq.trans (hT.kp _ Q0.out.lt PNE.out) Q0.out
          have y4 : wr.cell? ⟨w.heap.size, 0, none⟩ = some (.slice A n c) := hbx.cell _
          have y5 : wr.cell? ⟨w.heap.size, 1, none⟩ = some (.slice A' m c') := hbx.cell _
          have ea := addr_add qb qo (i * 2)
          clear hbx
          cases hon : ys[i].on with
          | false =>
            rw [hon] at y2
            have CA := cutK_on (N := wds.length) (sts := one.map lst) (wds := wds) (ys := ys) (k := false) (i := i) (by omega) hon
            have CB := cutK_off (N := wds.length) (sts := two.map lst) (wds := wds) (ys := ys) (k := true) (i := i) (by omega) (by rw [hon]; decide)
            have hok := rgt_ok wds.length ys[i].l true
            have hrl := rgt_len wds.length ys[i].l true
            obtain ⟨Sx, hSx⟩ : ∃ Sx, feedU (one.map lst) wds ((cutK wds.length (one.map lst) wds ys false i).1, [], (cutK wds.length (one.map lst) wds ys false i).2.2) (rgt wds.length ys[i].l true) = Sx := ⟨_, rfl⟩
            rw [hSx] at CA
            have hz : (cutK wds.length (one.map lst) wds ys false i).2.1.length + Sx.2.1.length ≤ 70368744177664 := by
              have := HLA.out (i + 1)
              rw [CA] at this
              simp only [sh, List.length_append] at this
              omega
            have HO := Lib.hid (show (cutK wds.length (one.map lst) wds ys false i).2.1 ++ Sx.2.1 = (cutK wds.length (one.map lst) wds ys false (i + 1)).2.1 by rw [CA]; rfl)
            have HX := Lib.hid (show (Sx.1, Sx.2.2) = ((cutK wds.length (one.map lst) wds ys false (i + 1)).1, (cutK wds.length (one.map lst) wds ys false (i + 1)).2.2) by rw [CA]; rfl)
            have HC := Lib.hid CB
            have SX := Lib.hid hSx
            have OKK := Lib.hid hok
            clear CA CB hSx hok hon
            generalize ys[i]'(by omega) = y at *
            go_wp2
            go_region_law ((try go_simp); go_at_call 17; refine (right_any A A' y.A n m y.n c c' y.c bs ps y.l true _ (HV.out.below (Below.drew hT.bl)) hwf l1 (rl.below (Below.drew (Below.refl _ _))) (by omega)).mono ?_; rintro e w7 ⟨u7, rfl, ou7, hb7⟩)
            all_goals
              rw [SZ.out] at ou7
              have hb8 : Below wr.heap.size wr w7 := ⟨hb7.os, hb7.tape, hb7.output, hb7.size, hb7.block⟩
              have o7 : w7.ownsRow wr.heap.size 3 1 u7 (rgt wds.length y.l true).length (I64 (rgt wds.length y.l true)) := ou7
              have hT7 := hT.below hb8
              have hsz := hT.sz
              have hlt0 := hT.lt (i := 0) (by omega)
              replace y2 := (World.cell?_of_block (hb8.block qb (World.block_lt_of_cell? _ _ y2))).trans y2
              clear y3 y4 y5 ou7 hb7 hb8 hT
              obtain ⟨uE, ue, rfl, _, _⟩ := own_rd o7
              have hF := hT7.feed (i := 0) (by omega) uE _ ue (rgt wds.length y.l true) rfl (by omega) (own_rdv o7) (fun b o h _ => by subst h; have := (own_lt o7 b rfl).1; omega) OKK.out Sx SX.out
              go_wp2_with fail
              refine hF.mono ?_
              clear hF
              rintro e w8 ⟨U, uc, rfl, ou8, _, hT8⟩
              have ap8 := hT7.fresh ou8 (j := 0) (by omega)
              clear hT7 o7
              rw [upd_q0] at hT8
              have z0 : w8.cell? ⟨w6.heap.size, 0, none⟩ = some (.slice aA (cutK wds.length (one.map lst) wds ys false i).2.1.length ac) := hT8.g.cell _
              go_wp2_with fail
              refine (hT8.join (j := 0) (by omega) _ U _ uc Sx.2.1 _ ou8 rfl ap8 hz HO.out).mono ?_
              rintro e w9 ⟨G, gc, rfl, hT9⟩
              rw [upd_q0, upd_q0] at hT9
              have z1 := hT9.g.frozen 0
              have z2 : w9.cell? ⟨w6.heap.size, 0, none⟩ = some (.slice aA (cutK wds.length (one.map lst) wds ys false i).2.1.length ac) := hT9.g.cell _
              have HT := Lib.hid (show Fam w w6 (quad p0 p1 p2 p3) v wds (quad one two one two) w6.heap.size (w6.heap.size + 1) (w9.setCell ⟨w6.heap.size, 0, none⟩ (.slice G (cutK wds.length (one.map lst) wds ys false (i + 1)).2.1.length gc)) #[(.slice G (cutK wds.length (one.map lst) wds ys false (i + 1)).2.1.length gc), .slice bA (cutK wds.length (two.map lst) wds ys true i).2.1.length bc] #[.slice none 0 0, .slice none 0 0] (quad (.slice G (cutK wds.length (one.map lst) wds ys false (i + 1)).2.1.length gc) (.slice bA (cutK wds.length (two.map lst) wds ys true i).2.1.length bc) (.slice none 0 0) (.slice none 0 0)) (quad (cutK wds.length (one.map lst) wds ys false (i + 1)).2.1 (cutK wds.length (two.map lst) wds ys true (i + 1)).2.1 [] []) (quad ((cutK wds.length (one.map lst) wds ys false (i + 1)).1, (cutK wds.length (one.map lst) wds ys false (i + 1)).2.2) ((cutK wds.length (two.map lst) wds ys true (i + 1)).1, (cutK wds.length (two.map lst) wds ys true (i + 1)).2.2) ([], false) ([], false)) by
                rw [HC.out, ← HX.out]
                exact hT9.setG 0 (.slice G (cutK wds.length (one.map lst) wds ys false (i + 1)).2.1.length gc))
              clear hT8 hT9 z0 ou8 ap8 hz
              go_wp2
              go_roundw
              case rel => exact ⟨i + 1, _, _, by omega, by go_num, HT.out⟩
              case measure => simp [intOf]; omega
          | true =>
            rw [hon] at y2
            have CA := cutK_on (N := wds.length) (sts := two.map lst) (wds := wds) (ys := ys) (k := true) (i := i) (by omega) hon
            have CB := cutK_off (N := wds.length) (sts := one.map lst) (wds := wds) (ys := ys) (k := false) (i := i) (by omega) (by rw [hon]; decide)
            have hok := rgt_ok wds.length ys[i].l true
            have hrl := rgt_len wds.length ys[i].l true
            obtain ⟨Sx, hSx⟩ : ∃ Sx, feedU (two.map lst) wds ((cutK wds.length (two.map lst) wds ys true i).1, [], (cutK wds.length (two.map lst) wds ys true i).2.2) (rgt wds.length ys[i].l true) = Sx := ⟨_, rfl⟩
            rw [hSx] at CA
            have hz : (cutK wds.length (two.map lst) wds ys true i).2.1.length + Sx.2.1.length ≤ 70368744177664 := by
              have := HLB.out (i + 1)
              rw [CA] at this
              simp only [sh, List.length_append] at this
              omega
            have HO := Lib.hid (show (cutK wds.length (two.map lst) wds ys true i).2.1 ++ Sx.2.1 = (cutK wds.length (two.map lst) wds ys true (i + 1)).2.1 by rw [CA]; rfl)
            have HX := Lib.hid (show (Sx.1, Sx.2.2) = ((cutK wds.length (two.map lst) wds ys true (i + 1)).1, (cutK wds.length (two.map lst) wds ys true (i + 1)).2.2) by rw [CA]; rfl)
            have HC := Lib.hid CB
            have SX := Lib.hid hSx
            have OKK := Lib.hid hok
            clear CA CB hSx hok hon
            generalize ys[i]'(by omega) = y at *
            go_wp2
            go_region_law ((try go_simp); go_at_call 17; refine (right_any A A' y.A n m y.n c c' y.c bs ps y.l true _ (HV.out.below (Below.drew hT.bl)) hwf l1 (rl.below (Below.drew (Below.refl _ _))) (by omega)).mono ?_; rintro e w7 ⟨u7, rfl, ou7, hb7⟩)
            all_goals
              rw [SZ.out] at ou7
              have hb8 : Below wr.heap.size wr w7 := ⟨hb7.os, hb7.tape, hb7.output, hb7.size, hb7.block⟩
              have o7 : w7.ownsRow wr.heap.size 3 1 u7 (rgt wds.length y.l true).length (I64 (rgt wds.length y.l true)) := ou7
              have hT7 := hT.below hb8
              have hsz := hT.sz
              have hlt0 := hT.lt (i := 1) (by omega)
              replace y2 := (World.cell?_of_block (hb8.block qb (World.block_lt_of_cell? _ _ y2))).trans y2
              clear y3 y4 y5 ou7 hb7 hb8 hT
              obtain ⟨uE, ue, rfl, _, _⟩ := own_rd o7
              have hF := hT7.feed (i := 1) (by omega) uE _ ue (rgt wds.length y.l true) rfl (by omega) (own_rdv o7) (fun b o h _ => by subst h; have := (own_lt o7 b rfl).1; omega) OKK.out Sx SX.out
              go_wp2_with fail
              refine hF.mono ?_
              clear hF
              rintro e w8 ⟨U, uc, rfl, ou8, _, hT8⟩
              have ap8 := hT7.fresh ou8 (j := 1) (by omega)
              clear hT7 o7
              rw [upd_q1] at hT8
              have z0 : w8.cell? ⟨w6.heap.size, 1, none⟩ = some (.slice bA (cutK wds.length (two.map lst) wds ys true i).2.1.length bc) := hT8.g.cell _
              go_wp2_with fail
              refine (hT8.join (j := 1) (by omega) _ U _ uc Sx.2.1 _ ou8 rfl ap8 hz HO.out).mono ?_
              rintro e w9 ⟨G, gc, rfl, hT9⟩
              rw [upd_q1, upd_q1] at hT9
              have z1 := hT9.g.frozen 1
              have z2 : w9.cell? ⟨w6.heap.size, 1, none⟩ = some (.slice bA (cutK wds.length (two.map lst) wds ys true i).2.1.length bc) := hT9.g.cell _
              have HT := Lib.hid (show Fam w w6 (quad p0 p1 p2 p3) v wds (quad one two one two) w6.heap.size (w6.heap.size + 1) (w9.setCell ⟨w6.heap.size, 1, none⟩ (.slice G (cutK wds.length (two.map lst) wds ys true (i + 1)).2.1.length gc)) #[.slice aA (cutK wds.length (one.map lst) wds ys false i).2.1.length ac, (.slice G (cutK wds.length (two.map lst) wds ys true (i + 1)).2.1.length gc)] #[.slice none 0 0, .slice none 0 0] (quad (.slice aA (cutK wds.length (one.map lst) wds ys false i).2.1.length ac) (.slice G (cutK wds.length (two.map lst) wds ys true (i + 1)).2.1.length gc) (.slice none 0 0) (.slice none 0 0)) (quad (cutK wds.length (one.map lst) wds ys false (i + 1)).2.1 (cutK wds.length (two.map lst) wds ys true (i + 1)).2.1 [] []) (quad ((cutK wds.length (one.map lst) wds ys false (i + 1)).1, (cutK wds.length (one.map lst) wds ys false (i + 1)).2.2) ((cutK wds.length (two.map lst) wds ys true (i + 1)).1, (cutK wds.length (two.map lst) wds ys true (i + 1)).2.2) ([], false) ([], false)) by
                rw [HC.out, ← HX.out]
                exact hT9.setG 1 (.slice G (cutK wds.length (two.map lst) wds ys true (i + 1)).2.1.length gc))
              clear hT8 hT9 z0 ou8 ap8 hz
              go_wp2
              go_roundw
              case rel => exact ⟨i + 1, _, _, by omega, by go_num, HT.out⟩
              case measure => simp [intOf]; omega
        · obtain rfl : qn = i := by omega
          go_wp2
          go_loopw [26, 27, 28, 29, 30] (fun kv _ _ _ _ wr => ∃ (k : Nat) (cw dw : Value), k ≤ 2 ∧ kv = .int .i64 (k : Int) ∧ Fam w w6 (quad p0 p1 p2 p3) v wds (quad one two one two) w6.heap.size (w6.heap.size + 1) wr #[(.slice aA (cutK wds.length (one.map lst) wds ys false qn).2.1.length ac), (.slice bA (cutK wds.length (two.map lst) wds ys true qn).2.1.length bc)] #[cw, dw] (quad (.slice aA (cutK wds.length (one.map lst) wds ys false qn).2.1.length ac) (.slice bA (cutK wds.length (two.map lst) wds ys true qn).2.1.length bc) cw dw) (quad (cutK wds.length (one.map lst) wds ys false qn).2.1 (cutK wds.length (two.map lst) wds ys true qn).2.1 (cutK wds.length (one.map lst) wds ys false (nA qn k)).2.1 (cutK wds.length (two.map lst) wds ys true (nB qn k)).2.1) (quad ((cutK wds.length (one.map lst) wds ys false qn).1, (cutK wds.length (one.map lst) wds ys false qn).2.2) ((cutK wds.length (two.map lst) wds ys true qn).1, (cutK wds.length (two.map lst) wds ys true qn).2.2) ((cutK wds.length (one.map lst) wds ys false (nA qn k)).1, (cutK wds.length (one.map lst) wds ys false (nA qn k)).2.2) ((cutK wds.length (two.map lst) wds ys true (nB qn k)).1, (cutK wds.length (two.map lst) wds ys true (nB qn k)).2.2))) (fun kv _ _ _ _ _ => 2 - (intOf kv).toNat)
          case atStart => exact ⟨0, _, _, by omega, rfl, hT⟩
          case round =>
            clear hT
            obtain ⟨k, cw, dw, hk, rfl, hT⟩ := hrel
            by_cases hk2 : k < 2
            · by_cases hk0 : k = 0
              · subst hk0
                replace hT : Fam w w6 (quad p0 p1 p2 p3) v wds (quad one two one two) w6.heap.size (w6.heap.size + 1) wr #[(.slice aA (cutK wds.length (one.map lst) wds ys false qn).2.1.length ac), (.slice bA (cutK wds.length (two.map lst) wds ys true qn).2.1.length bc)] #[cw, dw] (quad (.slice aA (cutK wds.length (one.map lst) wds ys false qn).2.1.length ac) (.slice bA (cutK wds.length (two.map lst) wds ys true qn).2.1.length bc) cw dw) (quad (cutK wds.length (one.map lst) wds ys false qn).2.1 (cutK wds.length (two.map lst) wds ys true qn).2.1 (cutK wds.length (one.map lst) wds ys false 0).2.1 (cutK wds.length (two.map lst) wds ys true 0).2.1) (quad ((cutK wds.length (one.map lst) wds ys false qn).1, (cutK wds.length (one.map lst) wds ys false qn).2.2) ((cutK wds.length (two.map lst) wds ys true qn).1, (cutK wds.length (two.map lst) wds ys true qn).2.2) ((cutK wds.length (one.map lst) wds ys false 0).1, (cutK wds.length (one.map lst) wds ys false 0).2.2) ((cutK wds.length (two.map lst) wds ys true 0).1, (cutK wds.length (two.map lst) wds ys true 0).2.2)) := hT
                rw [show ((0 : Nat) : Int) = 0 from rfl]
                go_wp2
                go_loopw [28, 29, 30] (fun jv _ _ wr => ∃ (j : Nat) (ev : Value), j ≤ qn ∧ jv = .int .i64 (j : Int) ∧ Fam w w6 (quad p0 p1 p2 p3) v wds (quad one two one two) w6.heap.size (w6.heap.size + 1) wr #[(.slice aA (cutK wds.length (one.map lst) wds ys false qn).2.1.length ac), (.slice bA (cutK wds.length (two.map lst) wds ys true qn).2.1.length bc)] #[ev, dw] (quad (.slice aA (cutK wds.length (one.map lst) wds ys false qn).2.1.length ac) (.slice bA (cutK wds.length (two.map lst) wds ys true qn).2.1.length bc) ev dw) (quad (cutK wds.length (one.map lst) wds ys false qn).2.1 (cutK wds.length (two.map lst) wds ys true qn).2.1 (cutK wds.length (one.map lst) wds ys false j).2.1 (cutK wds.length (two.map lst) wds ys true 0).2.1) (quad ((cutK wds.length (one.map lst) wds ys false qn).1, (cutK wds.length (one.map lst) wds ys false qn).2.2) ((cutK wds.length (two.map lst) wds ys true qn).1, (cutK wds.length (two.map lst) wds ys true qn).2.2) ((cutK wds.length (one.map lst) wds ys false j).1, (cutK wds.length (one.map lst) wds ys false j).2.2) ((cutK wds.length (two.map lst) wds ys true 0).1, (cutK wds.length (two.map lst) wds ys true 0).2.2))) (fun jv _ _ _ => qn - (intOf jv).toNat)
                case atStart => exact ⟨0, _, by omega, rfl, hT⟩
                case round =>
                  clear hT
                  obtain ⟨j, ev, hj, rfl, hT⟩ := hrel
                  obtain ⟨eA, ec, rfl, _, _⟩ := own_rd (show wr.ownsRow w6.heap.size 5 1 ev (cutK wds.length (one.map lst) wds ys false j).2.1.length (B8 (cutK wds.length (one.map lst) wds ys false j).2.1) from hT.r 2 (by omega))
                  by_cases hlt : j < qn
                  · have g5 : (j : Int) < (qn : Int) := by omega
                    obtain ⟨qb, qo, hQ, y2, y3, l1, l2, rl⟩ := RQ.out j (by omega)
                    subst hQ
                    replace y2 := (World.cell?_of_block (hT.bl.block qb (World.block_lt_of_cell? w _ y2))).trans y2
                    replace y3 := (World.cell?_of_block (hT.bl.block qb (World.block_lt_of_cell? w _ y3))).trans y3
                    replace rl := rl.below hT.bl
                    have hbx : Blk wr w.heap.size #[.slice A n c, .slice A' m c'] 37 := Eq.trans (hT.kp _ Q0.out.lt PNE.out) Q0.out
                    have y4 : wr.cell? ⟨w.heap.size, 0, none⟩ = some (.slice A n c) := hbx.cell _
                    have y5 : wr.cell? ⟨w.heap.size, 1, none⟩ = some (.slice A' m c') := hbx.cell _
                    have ea := addr_add qb qo (j * 2)
                    clear hbx
                    by_cases hon : ys[j].on = false
                    · rw [hon] at y2
                      have CA := cutK_on (N := wds.length) (sts := one.map lst) (wds := wds) (ys := ys) (k := false) (i := j) (by omega) hon
                      have hok := rgt_ok wds.length ys[j].l true
                      have hrl := rgt_len wds.length ys[j].l true
                      obtain ⟨Sx, hSx⟩ : ∃ Sx, feedU (one.map lst) wds ((cutK wds.length (one.map lst) wds ys false j).1, [], (cutK wds.length (one.map lst) wds ys false j).2.2) (rgt wds.length ys[j].l true) = Sx := ⟨_, rfl⟩
                      rw [hSx] at CA
                      have hz : (cutK wds.length (one.map lst) wds ys false j).2.1.length + Sx.2.1.length ≤ 70368744177664 := by
                        have := HLA.out (j + 1)
                        rw [CA] at this
                        simp only [sh, List.length_append] at this
                        omega
                      have HO := Lib.hid (show (cutK wds.length (one.map lst) wds ys false j).2.1 ++ Sx.2.1 = (cutK wds.length (one.map lst) wds ys false (j + 1)).2.1 by rw [CA]; rfl)
                      have HX := Lib.hid (show (Sx.1, Sx.2.2) = ((cutK wds.length (one.map lst) wds ys false (j + 1)).1, (cutK wds.length (one.map lst) wds ys false (j + 1)).2.2) by rw [CA]; rfl)
                      have SX := Lib.hid hSx
                      have OKK := Lib.hid hok
                      clear CA hSx hok hon
                      generalize ys[j]'(by omega) = y at *
                      have hsz := hT.sz
                      have hlt0 := hT.lt (i := 2) (by omega)
                      go_wp2
                      go_region_law (first | ((try go_simp); go_at_call 17; refine (right_any A A' y.A n m y.n c c' y.c bs ps y.l true _ (HV.out.below (Below.drew hT.bl)) hwf l1 (rl.below (Below.drew (Below.refl _ _))) (by omega)).mono ?_; rintro e w7 ⟨u7, rfl, ou7, hb7⟩; rw [SZ.out] at ou7; obtain ⟨uE, ue, rfl, _, _⟩ := own_rd ou7) | ((try go_simp); go_at_call 18; refine ((hT.below (undrew hb7)).feed (i := 2) (by omega) uE _ ue (rgt wds.length y.l true) rfl (by omega) (own_rdv ou7) (fun b o h _ => by subst h; have := (own_lt ou7 b rfl).1; rw [World.size_drew] at this; omega) OKK.out Sx SX.out).mono ?_; rintro e w8 ⟨U, uc, rfl, ou8, _, hT8⟩))
                      all_goals
                        have ap8 := (hT.below (undrew hb7)).fresh ou8 (j := 2) (by omega)
                        clear hT ou7 hb7 y2 y3 y4 y5 rl
                        rw [upd_q2] at hT8
                        have z0 : w8.cell? ⟨w6.heap.size + 1, 0, none⟩ = some (.slice eA (cutK wds.length (one.map lst) wds ys false j).2.1.length ec) := hT8.h.cell _
                        go_wp2_with fail
                        refine (hT8.join (j := 2) (by omega) _ U _ uc Sx.2.1 _ ou8 rfl ap8 hz HO.out).mono ?_
                        rintro e w9 ⟨G, gc, rfl, hT9⟩
                        rw [upd_q2, upd_q2] at hT9
                        have z1 := hT9.h.frozen 0
                        have z2 : w9.cell? ⟨w6.heap.size + 1, 0, none⟩ = some (.slice eA (cutK wds.length (one.map lst) wds ys false j).2.1.length ec) := hT9.h.cell _
                        have HT := Lib.hid (show Fam w w6 (quad p0 p1 p2 p3) v wds (quad one two one two) w6.heap.size (w6.heap.size + 1) (w9.setCell ⟨w6.heap.size + 1, 0, none⟩ (.slice G (cutK wds.length (one.map lst) wds ys false (j + 1)).2.1.length gc)) #[(.slice aA (cutK wds.length (one.map lst) wds ys false qn).2.1.length ac), (.slice bA (cutK wds.length (two.map lst) wds ys true qn).2.1.length bc)] #[(.slice G (cutK wds.length (one.map lst) wds ys false (j + 1)).2.1.length gc), dw] (quad (.slice aA (cutK wds.length (one.map lst) wds ys false qn).2.1.length ac) (.slice bA (cutK wds.length (two.map lst) wds ys true qn).2.1.length bc) (.slice G (cutK wds.length (one.map lst) wds ys false (j + 1)).2.1.length gc) dw) (quad (cutK wds.length (one.map lst) wds ys false qn).2.1 (cutK wds.length (two.map lst) wds ys true qn).2.1 (cutK wds.length (one.map lst) wds ys false (j + 1)).2.1 (cutK wds.length (two.map lst) wds ys true 0).2.1) (quad ((cutK wds.length (one.map lst) wds ys false qn).1, (cutK wds.length (one.map lst) wds ys false qn).2.2) ((cutK wds.length (two.map lst) wds ys true qn).1, (cutK wds.length (two.map lst) wds ys true qn).2.2) ((cutK wds.length (one.map lst) wds ys false (j + 1)).1, (cutK wds.length (one.map lst) wds ys false (j + 1)).2.2) ((cutK wds.length (two.map lst) wds ys true 0).1, (cutK wds.length (two.map lst) wds ys true 0).2.2)) by
                          rw [← HX.out]
                          exact hT9.setH 0 (.slice G (cutK wds.length (one.map lst) wds ys false (j + 1)).2.1.length gc))
                        clear hT8 hT9 z0 ou8 ap8 hz
                        go_wp2
                        go_roundw
                        case rel => exact ⟨j + 1, _, by omega, by go_num, HT.out⟩
                        case measure => simp [intOf]; omega
                    · have hon2 : ys[j].on = true := by simpa using hon
                      rw [hon2] at y2
                      have CB := cutK_off (N := wds.length) (sts := one.map lst) (wds := wds) (ys := ys) (k := false) (i := j) (by omega) hon
                      have HT := Lib.hid (show Fam w w6 (quad p0 p1 p2 p3) v wds (quad one two one two) w6.heap.size (w6.heap.size + 1) wr #[(.slice aA (cutK wds.length (one.map lst) wds ys false qn).2.1.length ac), (.slice bA (cutK wds.length (two.map lst) wds ys true qn).2.1.length bc)] #[(.slice eA (cutK wds.length (one.map lst) wds ys false j).2.1.length ec), dw] (quad (.slice aA (cutK wds.length (one.map lst) wds ys false qn).2.1.length ac) (.slice bA (cutK wds.length (two.map lst) wds ys true qn).2.1.length bc) (.slice eA (cutK wds.length (one.map lst) wds ys false j).2.1.length ec) dw) (quad (cutK wds.length (one.map lst) wds ys false qn).2.1 (cutK wds.length (two.map lst) wds ys true qn).2.1 (cutK wds.length (one.map lst) wds ys false (j + 1)).2.1 (cutK wds.length (two.map lst) wds ys true 0).2.1) (quad ((cutK wds.length (one.map lst) wds ys false qn).1, (cutK wds.length (one.map lst) wds ys false qn).2.2) ((cutK wds.length (two.map lst) wds ys true qn).1, (cutK wds.length (two.map lst) wds ys true qn).2.2) ((cutK wds.length (one.map lst) wds ys false (j + 1)).1, (cutK wds.length (one.map lst) wds ys false (j + 1)).2.2) ((cutK wds.length (two.map lst) wds ys true 0).1, (cutK wds.length (two.map lst) wds ys true 0).2.2)) by rw [CB]; exact hT)
                      have HCB := Lib.hid CB
                      clear CB hT hon hon2
                      go_wp2
                      go_roundw
                      case rel => exact ⟨j + 1, _, by omega, by go_num, HT.out⟩
                      case measure => simp [intOf]; omega
                  · obtain rfl : qn = j := by omega
                    have HT := Lib.hid hT
                    clear hT
                    go_wp2
                    go_roundw
                    case rel => exact ⟨0 + 1, _, dw, by omega, by go_num, HT.out⟩
                    case measure => simp [intOf]
              · obtain rfl : k = 1 := by omega
                replace hT : Fam w w6 (quad p0 p1 p2 p3) v wds (quad one two one two) w6.heap.size (w6.heap.size + 1) wr #[(.slice aA (cutK wds.length (one.map lst) wds ys false qn).2.1.length ac), (.slice bA (cutK wds.length (two.map lst) wds ys true qn).2.1.length bc)] #[cw, dw] (quad (.slice aA (cutK wds.length (one.map lst) wds ys false qn).2.1.length ac) (.slice bA (cutK wds.length (two.map lst) wds ys true qn).2.1.length bc) cw dw) (quad (cutK wds.length (one.map lst) wds ys false qn).2.1 (cutK wds.length (two.map lst) wds ys true qn).2.1 (cutK wds.length (one.map lst) wds ys false qn).2.1 (cutK wds.length (two.map lst) wds ys true 0).2.1) (quad ((cutK wds.length (one.map lst) wds ys false qn).1, (cutK wds.length (one.map lst) wds ys false qn).2.2) ((cutK wds.length (two.map lst) wds ys true qn).1, (cutK wds.length (two.map lst) wds ys true qn).2.2) ((cutK wds.length (one.map lst) wds ys false qn).1, (cutK wds.length (one.map lst) wds ys false qn).2.2) ((cutK wds.length (two.map lst) wds ys true 0).1, (cutK wds.length (two.map lst) wds ys true 0).2.2)) := hT
                rw [show ((1 : Nat) : Int) = 1 from rfl]
                go_wp2
                go_loopw [28, 29, 30] (fun jv _ _ wr => ∃ (j : Nat) (ev : Value), j ≤ qn ∧ jv = .int .i64 (j : Int) ∧ Fam w w6 (quad p0 p1 p2 p3) v wds (quad one two one two) w6.heap.size (w6.heap.size + 1) wr #[(.slice aA (cutK wds.length (one.map lst) wds ys false qn).2.1.length ac), (.slice bA (cutK wds.length (two.map lst) wds ys true qn).2.1.length bc)] #[cw, ev] (quad (.slice aA (cutK wds.length (one.map lst) wds ys false qn).2.1.length ac) (.slice bA (cutK wds.length (two.map lst) wds ys true qn).2.1.length bc) cw ev) (quad (cutK wds.length (one.map lst) wds ys false qn).2.1 (cutK wds.length (two.map lst) wds ys true qn).2.1 (cutK wds.length (one.map lst) wds ys false qn).2.1 (cutK wds.length (two.map lst) wds ys true j).2.1) (quad ((cutK wds.length (one.map lst) wds ys false qn).1, (cutK wds.length (one.map lst) wds ys false qn).2.2) ((cutK wds.length (two.map lst) wds ys true qn).1, (cutK wds.length (two.map lst) wds ys true qn).2.2) ((cutK wds.length (one.map lst) wds ys false qn).1, (cutK wds.length (one.map lst) wds ys false qn).2.2) ((cutK wds.length (two.map lst) wds ys true j).1, (cutK wds.length (two.map lst) wds ys true j).2.2))) (fun jv _ _ _ => qn - (intOf jv).toNat)
                case atStart => exact ⟨0, _, by omega, rfl, hT⟩
                case round =>
                  clear hT
                  obtain ⟨j, ev, hj, rfl, hT⟩ := hrel
                  obtain ⟨eA, ec, rfl, _, _⟩ := own_rd (show wr.ownsRow w6.heap.size 5 1 ev (cutK wds.length (two.map lst) wds ys true j).2.1.length (B8 (cutK wds.length (two.map lst) wds ys true j).2.1) from hT.r 3 (by omega))
                  by_cases hlt : j < qn
                  · have g5 : (j : Int) < (qn : Int) := by omega
                    obtain ⟨qb, qo, hQ, y2, y3, l1, l2, rl⟩ := RQ.out j (by omega)
                    subst hQ
                    replace y2 := (World.cell?_of_block (hT.bl.block qb (World.block_lt_of_cell? w _ y2))).trans y2
                    replace y3 := (World.cell?_of_block (hT.bl.block qb (World.block_lt_of_cell? w _ y3))).trans y3
                    replace rl := rl.below hT.bl
                    have hbx : Blk wr w.heap.size #[.slice A n c, .slice A' m c'] 37 := Eq.trans (hT.kp _ Q0.out.lt PNE.out) Q0.out
                    have y4 : wr.cell? ⟨w.heap.size, 0, none⟩ = some (.slice A n c) := hbx.cell _
                    have y5 : wr.cell? ⟨w.heap.size, 1, none⟩ = some (.slice A' m c') := hbx.cell _
                    have ea := addr_add qb qo (j * 2)
                    clear hbx
                    by_cases hon : ys[j].on = true
                    · rw [hon] at y2
                      have CA := cutK_on (N := wds.length) (sts := two.map lst) (wds := wds) (ys := ys) (k := true) (i := j) (by omega) hon
                      have hok := rgt_ok wds.length ys[j].l true
                      have hrl := rgt_len wds.length ys[j].l true
                      obtain ⟨Sx, hSx⟩ : ∃ Sx, feedU (two.map lst) wds ((cutK wds.length (two.map lst) wds ys true j).1, [], (cutK wds.length (two.map lst) wds ys true j).2.2) (rgt wds.length ys[j].l true) = Sx := ⟨_, rfl⟩
                      rw [hSx] at CA
                      have hz : (cutK wds.length (two.map lst) wds ys true j).2.1.length + Sx.2.1.length ≤ 70368744177664 := by
                        have := HLB.out (j + 1)
                        rw [CA] at this
                        simp only [sh, List.length_append] at this
                        omega
                      have HO := Lib.hid (show (cutK wds.length (two.map lst) wds ys true j).2.1 ++ Sx.2.1 = (cutK wds.length (two.map lst) wds ys true (j + 1)).2.1 by rw [CA]; rfl)
                      have HX := Lib.hid (show (Sx.1, Sx.2.2) = ((cutK wds.length (two.map lst) wds ys true (j + 1)).1, (cutK wds.length (two.map lst) wds ys true (j + 1)).2.2) by rw [CA]; rfl)
                      have SX := Lib.hid hSx
                      have OKK := Lib.hid hok
                      clear CA hSx hok hon
                      generalize ys[j]'(by omega) = y at *
                      have hsz := hT.sz
                      have hlt0 := hT.lt (i := 3) (by omega)
                      go_wp2
                      go_region_law (first | ((try go_simp); go_at_call 17; refine (right_any A A' y.A n m y.n c c' y.c bs ps y.l true _ (HV.out.below (Below.drew hT.bl)) hwf l1 (rl.below (Below.drew (Below.refl _ _))) (by omega)).mono ?_; rintro e w7 ⟨u7, rfl, ou7, hb7⟩; rw [SZ.out] at ou7; obtain ⟨uE, ue, rfl, _, _⟩ := own_rd ou7) | ((try go_simp); go_at_call 18; refine ((hT.below (undrew hb7)).feed (i := 3) (by omega) uE _ ue (rgt wds.length y.l true) rfl (by omega) (own_rdv ou7) (fun b o h _ => by subst h; have := (own_lt ou7 b rfl).1; rw [World.size_drew] at this; omega) OKK.out Sx SX.out).mono ?_; rintro e w8 ⟨U, uc, rfl, ou8, _, hT8⟩))
                      all_goals
                        have ap8 := (hT.below (undrew hb7)).fresh ou8 (j := 3) (by omega)
                        clear hT ou7 hb7 y2 y3 y4 y5 rl
                        replace hT8 := hT8.congr (fun _ _ => rfl) (fun _ _ => rfl) (q3_eq _ _ _ _ _)
                        have z0 : w8.cell? ⟨w6.heap.size + 1, 1, none⟩ = some (.slice eA (cutK wds.length (two.map lst) wds ys true j).2.1.length ec) := hT8.h.cell _
                        go_wp2_with fail
                        refine (hT8.join (j := 3) (by omega) _ U _ uc Sx.2.1 _ ou8 rfl ap8 hz HO.out).mono ?_
                        rintro e w9 ⟨G, gc, rfl, hT9⟩
                        replace hT9 := hT9.congr (q3_eq _ _ _ _ _) (q3_eq _ _ _ _ _) (fun _ _ => rfl)
                        have z1 := hT9.h.frozen 1
                        have z2 : w9.cell? ⟨w6.heap.size + 1, 1, none⟩ = some (.slice eA (cutK wds.length (two.map lst) wds ys true j).2.1.length ec) := hT9.h.cell _
                        have HT := Lib.hid (show Fam w w6 (quad p0 p1 p2 p3) v wds (quad one two one two) w6.heap.size (w6.heap.size + 1) (w9.setCell ⟨w6.heap.size + 1, 1, none⟩ (.slice G (cutK wds.length (two.map lst) wds ys true (j + 1)).2.1.length gc)) #[(.slice aA (cutK wds.length (one.map lst) wds ys false qn).2.1.length ac), (.slice bA (cutK wds.length (two.map lst) wds ys true qn).2.1.length bc)] #[cw, (.slice G (cutK wds.length (two.map lst) wds ys true (j + 1)).2.1.length gc)] (quad (.slice aA (cutK wds.length (one.map lst) wds ys false qn).2.1.length ac) (.slice bA (cutK wds.length (two.map lst) wds ys true qn).2.1.length bc) cw (.slice G (cutK wds.length (two.map lst) wds ys true (j + 1)).2.1.length gc)) (quad (cutK wds.length (one.map lst) wds ys false qn).2.1 (cutK wds.length (two.map lst) wds ys true qn).2.1 (cutK wds.length (one.map lst) wds ys false qn).2.1 (cutK wds.length (two.map lst) wds ys true (j + 1)).2.1) (quad ((cutK wds.length (one.map lst) wds ys false qn).1, (cutK wds.length (one.map lst) wds ys false qn).2.2) ((cutK wds.length (two.map lst) wds ys true qn).1, (cutK wds.length (two.map lst) wds ys true qn).2.2) ((cutK wds.length (one.map lst) wds ys false qn).1, (cutK wds.length (one.map lst) wds ys false qn).2.2) ((cutK wds.length (two.map lst) wds ys true (j + 1)).1, (cutK wds.length (two.map lst) wds ys true (j + 1)).2.2)) by
                          rw [← HX.out]
                          exact hT9.setH 1 (.slice G (cutK wds.length (two.map lst) wds ys true (j + 1)).2.1.length gc))
                        clear hT8 hT9 z0 ou8 ap8 hz
                        go_wp2
                        go_roundw
                        case rel => exact ⟨j + 1, _, by omega, by go_num, HT.out⟩
                        case measure => simp [intOf]; omega
                    · have hon2 : ys[j].on = false := by simpa using hon
                      rw [hon2] at y2
                      have CB := cutK_off (N := wds.length) (sts := two.map lst) (wds := wds) (ys := ys) (k := true) (i := j) (by omega) hon
                      have HT := Lib.hid (show Fam w w6 (quad p0 p1 p2 p3) v wds (quad one two one two) w6.heap.size (w6.heap.size + 1) wr #[(.slice aA (cutK wds.length (one.map lst) wds ys false qn).2.1.length ac), (.slice bA (cutK wds.length (two.map lst) wds ys true qn).2.1.length bc)] #[cw, (.slice eA (cutK wds.length (two.map lst) wds ys true j).2.1.length ec)] (quad (.slice aA (cutK wds.length (one.map lst) wds ys false qn).2.1.length ac) (.slice bA (cutK wds.length (two.map lst) wds ys true qn).2.1.length bc) cw (.slice eA (cutK wds.length (two.map lst) wds ys true j).2.1.length ec)) (quad (cutK wds.length (one.map lst) wds ys false qn).2.1 (cutK wds.length (two.map lst) wds ys true qn).2.1 (cutK wds.length (one.map lst) wds ys false qn).2.1 (cutK wds.length (two.map lst) wds ys true (j + 1)).2.1) (quad ((cutK wds.length (one.map lst) wds ys false qn).1, (cutK wds.length (one.map lst) wds ys false qn).2.2) ((cutK wds.length (two.map lst) wds ys true qn).1, (cutK wds.length (two.map lst) wds ys true qn).2.2) ((cutK wds.length (one.map lst) wds ys false qn).1, (cutK wds.length (one.map lst) wds ys false qn).2.2) ((cutK wds.length (two.map lst) wds ys true (j + 1)).1, (cutK wds.length (two.map lst) wds ys true (j + 1)).2.2)) by rw [CB]; exact hT)
                      have HCB := Lib.hid CB
                      clear CB hT hon hon2
                      go_wp2
                      go_roundw
                      case rel => exact ⟨j + 1, _, by omega, by go_num, HT.out⟩
                      case measure => simp [intOf]; omega
                  · obtain rfl : qn = j := by omega
                    have HT := Lib.hid hT
                    clear hT
                    go_wp2
                    go_roundw
                    case rel => exact ⟨1 + 1, cw, _, by omega, by go_num, HT.out⟩
                    case measure => simp [intOf]
            · obtain rfl : k = 2 := by omega
              have hla := HLA.out qn
              have hlb := HLB.out qn
              have htA := hT.tl 0 (by omega)
              have htB := hT.tl 1 (by omega)
              replace hT : Fam w w6 (quad p0 p1 p2 p3) v wds (quad one two one two) w6.heap.size (w6.heap.size + 1) wr #[(.slice aA (cutK wds.length (one.map lst) wds ys false qn).2.1.length ac), (.slice bA (cutK wds.length (two.map lst) wds ys true qn).2.1.length bc)] #[cw, dw] (quad (.slice aA (cutK wds.length (one.map lst) wds ys false qn).2.1.length ac) (.slice bA (cutK wds.length (two.map lst) wds ys true qn).2.1.length bc) cw dw) (quad (cutK wds.length (one.map lst) wds ys false qn).2.1 (cutK wds.length (two.map lst) wds ys true qn).2.1 (cutK wds.length (one.map lst) wds ys false qn).2.1 (cutK wds.length (two.map lst) wds ys true qn).2.1) (quad ((cutK wds.length (one.map lst) wds ys false qn).1, (cutK wds.length (one.map lst) wds ys false qn).2.2) ((cutK wds.length (two.map lst) wds ys true qn).1, (cutK wds.length (two.map lst) wds ys true qn).2.2) ((cutK wds.length (one.map lst) wds ys false qn).1, (cutK wds.length (one.map lst) wds ys false qn).2.2) ((cutK wds.length (two.map lst) wds ys true qn).1, (cutK wds.length (two.map lst) wds ys true qn).2.2)) := hT
              obtain ⟨cA, cc, rfl, _, _⟩ := own_rd (show wr.ownsRow w6.heap.size 5 1 cw (cutK wds.length (one.map lst) wds ys false qn).2.1.length (B8 (cutK wds.length (one.map lst) wds ys false qn).2.1) from hT.r 2 (by omega))
              obtain ⟨dA, dc, rfl, _, _⟩ := own_rd (show wr.ownsRow w6.heap.size 5 1 dw (cutK wds.length (two.map lst) wds ys true qn).2.1.length (B8 (cutK wds.length (two.map lst) wds ys true qn).2.1) from hT.r 3 (by omega))
              replace htA : (((cutK wds.length (one.map lst) wds ys false qn).1, (cutK wds.length (one.map lst) wds ys false qn).2.2)).1.length ≤ 18 := htA
              replace htB : (((cutK wds.length (two.map lst) wds ys true qn).1, (cutK wds.length (two.map lst) wds ys true qn).2.2)).1.length ≤ 18 := htB
              clear HLA HLB
              generalize cutK wds.length (one.map lst) wds ys false qn = SA at *
              generalize cutK wds.length (two.map lst) wds ys true qn = SB at *
              obtain ⟨tA, OA, vA⟩ := SA
              obtain ⟨tB, OB, vB⟩ := SB
              dsimp only at hT hla hlb htA htB ⊢
              obtain ⟨oA, hoA⟩ : ∃ oA, (if vA then [] else bI tA) = oA := ⟨_, rfl⟩
              obtain ⟨oB, hoB⟩ : ∃ oB, (if vB then [] else bI tB) = oB := ⟨_, rfl⟩
              obtain ⟨rA, hrA⟩ : ∃ rA, (if vA then tA else []) = rA := ⟨_, rfl⟩
              obtain ⟨rB, hrB⟩ : ∃ rB, (if vB then tB else []) = rB := ⟨_, rfl⟩
              have hoAl : oA.length ≤ 18 := by rw [← hoA]; split; simp; rw [bI_length]; exact htA
              have hoBl : oB.length ≤ 18 := by rw [← hoB]; split; simp; rw [bI_length]; exact htB
              have hzA : OA.length + oA.length ≤ 70368744177664 := by omega
              have hzB : OB.length + oB.length ≤ 70368744177664 := by omega
              obtain ⟨gA, hgA⟩ : ∃ gA, OA ++ oA = gA := ⟨_, rfl⟩
              obtain ⟨gB, hgB⟩ : ∃ gB, OB ++ oB = gB := ⟨_, rfl⟩
              have hgAl : gA.length ≤ 70368744177664 := by rw [← hgA, List.length_append]; exact hzA
              have hgBl : gB.length ≤ 70368744177664 := by rw [← hgB, List.length_append]; exact hzB
              have HGA := Lib.hid hgA
              have HGB := Lib.hid hgB
              have h00 : 0 < wds.length := by omega
              clear hgA hgB htA htB hla hlb hoAl hoBl
              have z0 : wr.cell? ⟨w6.heap.size, 0, none⟩ = some (.slice aA OA.length ac) := hT.g.cell _
              go_wp2
              rename_i K40 aK40
              have key40 : ∀ (a : Act) (wy0 : World) (G0 : Option Addr) (gc0 : Nat), (∃ us : Nat → Value, a = { tmps := #[us 0, us 1, us 2, us 3, us 4, us 5, us 6, us 7, us 8, us 9, .pointer (some ⟨p0, 0, none⟩), us 11, .pointer (some ⟨p1, 0, none⟩), us 13, .pointer (some ⟨p2, 0, none⟩), us 15, .pointer (some ⟨p3, 0, none⟩), us 17, .pointer (some ⟨w6.heap.size, 0, none⟩), .pointer (some ⟨w6.heap.size + 1, 0, none⟩), us 20, us 21, us 22, us 23, us 24, us 25, us 26, us 27, us 28, us 29, us 30, .slice G0 gA.length gc0, us 32, us 33, us 34, us 35, us 36, us 37, us 38, us 39, us 40, us 41, us 42, us 43, us 44, us 45, us 46, us 47, us 48, us 49, us 50, us 51, us 52, us 53, us 54, us 55, us 56, us 57, us 58, us 59, us 60, us 61, us 62, us 63, us 64, us 65, us 66, us 67, us 68, us 69, us 70, us 71, us 72, us 73, us 74, us 75, us 76, us 77, us 78, us 79, us 80, us 81, us 82, us 83, us 84, us 85, us 86, us 87, us 88, us 89, us 90, us 91, us 92, us 93, us 94, us 95, us 96, us 97, us 98, us 99, us 100, us 101, us 102, us 103, us 104, us 105, us 106, us 107, us 108, us 109, us 110, us 111, us 112, us 113, us 114, us 115, us 116, us 117, us 118, us 119, us 120, us 121, us 122, us 123, us 124, us 125, us 126, us 127, us 128, us 129, us 130, us 131, us 132, us 133, us 134, us 135, us 136, us 137, us 138, us 139, us 140, us 141, us 142, us 143, us 144, us 145, us 146, us 147, us 148, us 149, us 150, us 151, us 152, us 153, us 154, us 155, us 156, us 157, us 158, us 159, us 160, us 161, us 162, us 163, us 164, us 165, us 166, us 167, us 168, us 169, us 170, us 171, us 172, us 173, us 174, us 175, us 176, us 177, us 178, us 179, us 180, us 181, us 182, us 183, us 184, us 185, us 186, us 187, us 188, us 189, us 190, us 191, us 192, us 193, us 194, us 195, us 196, us 197, us 198, us 199, us 200, us 201, us 202, us 203, us 204, us 205, us 206, us 207, us 208, us 209, us 210], defers := [] }) → Fam w w6 (quad p0 p1 p2 p3) v wds (quad one two one two) w6.heap.size (w6.heap.size + 1) wy0 #[.slice aA OA.length ac, .slice bA OB.length bc] #[.slice cA OA.length cc, .slice dA OB.length dc] (quad (.slice G0 gA.length gc0) (.slice bA OB.length bc) (.slice cA OA.length cc) (.slice dA OB.length dc)) (quad gA OB OA OB) (quad (rA, true) (tB, vB) (tA, vA) (tB, vB)) → K40 a wy0 := by
                rintro a wy0 G0 gc0 ⟨us, rfl⟩ hTy0
                refine aK40 _ _ ?_
                clear hT z0 aK40
                have z1 : wy0.cell? ⟨w6.heap.size, 1, none⟩ = some (.slice bA OB.length bc) := hTy0.g.cell _
                go_wp2
                rename_i K41 aK41
                have key41 : ∀ (a : Act) (wy1 : World) (G1 : Option Addr) (gc1 : Nat), (∃ us : Nat → Value, a = { tmps := #[us 0, us 1, us 2, us 3, us 4, us 5, us 6, us 7, us 8, us 9, .pointer (some ⟨p0, 0, none⟩), us 11, .pointer (some ⟨p1, 0, none⟩), us 13, .pointer (some ⟨p2, 0, none⟩), us 15, .pointer (some ⟨p3, 0, none⟩), us 17, .pointer (some ⟨w6.heap.size, 0, none⟩), .pointer (some ⟨w6.heap.size + 1, 0, none⟩), us 20, us 21, us 22, us 23, us 24, us 25, us 26, us 27, us 28, us 29, us 30, .slice G0 gA.length gc0, .slice G1 gB.length gc1, us 33, us 34, us 35, us 36, us 37, us 38, us 39, us 40, us 41, us 42, us 43, us 44, us 45, us 46, us 47, us 48, us 49, us 50, us 51, us 52, us 53, us 54, us 55, us 56, us 57, us 58, us 59, us 60, us 61, us 62, us 63, us 64, us 65, us 66, us 67, us 68, us 69, us 70, us 71, us 72, us 73, us 74, us 75, us 76, us 77, us 78, us 79, us 80, us 81, us 82, us 83, us 84, us 85, us 86, us 87, us 88, us 89, us 90, us 91, us 92, us 93, us 94, us 95, us 96, us 97, us 98, us 99, us 100, us 101, us 102, us 103, us 104, us 105, us 106, us 107, us 108, us 109, us 110, us 111, us 112, us 113, us 114, us 115, us 116, us 117, us 118, us 119, us 120, us 121, us 122, us 123, us 124, us 125, us 126, us 127, us 128, us 129, us 130, us 131, us 132, us 133, us 134, us 135, us 136, us 137, us 138, us 139, us 140, us 141, us 142, us 143, us 144, us 145, us 146, us 147, us 148, us 149, us 150, us 151, us 152, us 153, us 154, us 155, us 156, us 157, us 158, us 159, us 160, us 161, us 162, us 163, us 164, us 165, us 166, us 167, us 168, us 169, us 170, us 171, us 172, us 173, us 174, us 175, us 176, us 177, us 178, us 179, us 180, us 181, us 182, us 183, us 184, us 185, us 186, us 187, us 188, us 189, us 190, us 191, us 192, us 193, us 194, us 195, us 196, us 197, us 198, us 199, us 200, us 201, us 202, us 203, us 204, us 205, us 206, us 207, us 208, us 209, us 210], defers := [] }) → Fam w w6 (quad p0 p1 p2 p3) v wds (quad one two one two) w6.heap.size (w6.heap.size + 1) wy1 #[.slice aA OA.length ac, .slice bA OB.length bc] #[.slice cA OA.length cc, .slice dA OB.length dc] (quad (.slice G0 gA.length gc0) (.slice G1 gB.length gc1) (.slice cA OA.length cc) (.slice dA OB.length dc)) (quad gA gB OA OB) (quad (rA, true) (rB, true) (tA, vA) (tB, vB)) → K41 a wy1 := by
                  rintro a wy1 G1 gc1 ⟨us, rfl⟩ hTy1
                  refine aK41 _ _ ?_
                  clear hTy0 z1 aK41
                  have z2 : wy1.cell? ⟨w6.heap.size + 1, 0, none⟩ = some (.slice cA OA.length cc) := hTy1.h.cell _
                  go_wp2
                  rename_i K42 aK42
                  have key42 : ∀ (a : Act) (we : World), (∃ us : Nat → Value, a = { tmps := #[us 0, us 1, us 2, us 3, us 4, us 5, us 6, us 7, us 8, us 9, .pointer (some ⟨p0, 0, none⟩), us 11, .pointer (some ⟨p1, 0, none⟩), us 13, .pointer (some ⟨p2, 0, none⟩), us 15, .pointer (some ⟨p3, 0, none⟩), us 17, .pointer (some ⟨w6.heap.size, 0, none⟩), .pointer (some ⟨w6.heap.size + 1, 0, none⟩), us 20, us 21, us 22, us 23, us 24, us 25, us 26, us 27, us 28, us 29, us 30, us 31, us 32, .bool true, us 34, us 35, us 36, us 37, us 38, us 39, us 40, us 41, us 42, us 43, us 44, us 45, us 46, us 47, us 48, us 49, us 50, us 51, us 52, us 53, us 54, us 55, us 56, us 57, us 58, us 59, us 60, us 61, us 62, us 63, us 64, us 65, us 66, us 67, us 68, us 69, us 70, us 71, us 72, us 73, us 74, us 75, us 76, us 77, us 78, us 79, us 80, us 81, us 82, us 83, us 84, us 85, us 86, us 87, us 88, us 89, us 90, us 91, us 92, us 93, us 94, us 95, us 96, us 97, us 98, us 99, us 100, us 101, us 102, us 103, us 104, us 105, us 106, us 107, us 108, us 109, us 110, us 111, us 112, us 113, us 114, us 115, us 116, us 117, us 118, us 119, us 120, us 121, us 122, us 123, us 124, us 125, us 126, us 127, us 128, us 129, us 130, us 131, us 132, us 133, us 134, us 135, us 136, us 137, us 138, us 139, us 140, us 141, us 142, us 143, us 144, us 145, us 146, us 147, us 148, us 149, us 150, us 151, us 152, us 153, us 154, us 155, us 156, us 157, us 158, us 159, us 160, us 161, us 162, us 163, us 164, us 165, us 166, us 167, us 168, us 169, us 170, us 171, us 172, us 173, us 174, us 175, us 176, us 177, us 178, us 179, us 180, us 181, us 182, us 183, us 184, us 185, us 186, us 187, us 188, us 189, us 190, us 191, us 192, us 193, us 194, us 195, us 196, us 197, us 198, us 199, us 200, us 201, us 202, us 203, us 204, us 205, us 206, us 207, us 208, us 209, us 210], defers := [] }) → (∃ (tve : Nat → Value) (te : Nat → List Int) (xe : Nat → List UInt8 × Bool), Fam w w6 (quad p0 p1 p2 p3) v wds (quad one two one two) w6.heap.size (w6.heap.size + 1) we #[.slice aA OA.length ac, .slice bA OB.length bc] #[.slice cA OA.length cc, .slice dA OB.length dc] tve te xe ∧ (xe 0).2 = true ∧ (xe 1).2 = true) → K42 a we := by
                    rintro a we ⟨us, rfl⟩ ⟨tve, te, xe, hTe, hx0, hx1⟩
                    refine aK42 _ _ ?_
                    clear hTy1 z2 aK42
                    go_wp2_with fail
                    refine (hTe.over (i := 0) (by omega)).mono ?_
                    rintro e wv ⟨rfl, rfl⟩
                    rw [hx0]
                    go_wp2_with fail
                    refine (hTe.over (i := 1) (by omega)).mono ?_
                    rintro e wv ⟨rfl, rfl⟩
                    rw [hx1]
                    have HBL := Lib.hid hTe.bl
                    clear hTe
                    go_wp2
                    go_returns
                    exact ⟨rfl, HBL.out⟩
                  clear aK42
                  go_region_law (rw [if_pos (by kernel_rfl)]; (try go_simp); first | ((fail_if_success (have := hTz2)); go_at_call 22; refine ((hTy1.below (Below.drew (Below.refl _ _))).close (i := 2) (by omega) h00 oA rA hoA hrA).mono ?_; rintro e wx2 ⟨U2, uc2, rfl, ou2, _, hTx2⟩; rw [upd_q2] at hTx2; have zz2 : wx2.cell? ⟨w6.heap.size + 1, 0, none⟩ = some (.slice cA OA.length cc) := hTx2.h.cell _) | ((fail_if_success (have := hTz2)); go_at_call 19; refine (hTx2.join (j := 2) (by omega) _ U2 _ uc2 oA gA ou2 rfl ((hTy1.below (Below.drew (Below.refl _ _))).fresh ou2 (j := 2) (by omega)) hzA HGA.out).mono ?_; rintro e wy2 ⟨G2, gc2, rfl, hTy2⟩; rw [upd_q2, upd_q2] at hTy2; have re0 : Rd wy2 G0 (B8 gA) := own_rdv (show wy2.ownsRow w6.heap.size 5 1 (.slice G0 gA.length gc0) gA.length (B8 gA) from hTy2.r 0 (by omega)); have re2 : Rd wy2 G2 (B8 gA) := own_rdv (show wy2.ownsRow w6.heap.size 5 1 (.slice G2 gA.length gc2) gA.length (B8 gA) from hTy2.r 2 (by omega))) | ((fail_if_success (have := hTz2)); go_at_call 20; refine (eqBytes_any G0 G2 gA.length gA.length gc0 gc2 gA gA rfl rfl (by omega) wy2 re0 re2).mono ?_; rintro e wz2 ⟨rfl, hbz2⟩; rw [decide_eq_true (rfl : gA = gA)]; have hTz2 := hTy2.below hbz2; have zz3 : wz2.cell? ⟨w6.heap.size + 1, 1, none⟩ = some (.slice dA OB.length dc) := hTz2.h.cell _) | (go_at_call 22; refine ((hTz2).close (i := 3) (by omega) h00 oB rB hoB hrB).mono ?_; rintro e wx3 ⟨U3, uc3, rfl, ou3, _, hTx3⟩; replace hTx3 := hTx3.congr (fun _ _ => rfl) (fun _ _ => rfl) (q3_eq _ _ _ _ _); have zz4 : wx3.cell? ⟨w6.heap.size + 1, 1, none⟩ = some (.slice dA OB.length dc) := hTx3.h.cell _) | (go_at_call 19; refine (hTx3.join (j := 3) (by omega) _ U3 _ uc3 oB gB ou3 rfl ((hTz2).fresh ou3 (j := 3) (by omega)) hzB HGB.out).mono ?_; rintro e wy3 ⟨G3, gc3, rfl, hTy3⟩; replace hTy3 := hTy3.congr (q3_eq _ _ _ _ _) (q3_eq _ _ _ _ _) (fun _ _ => rfl); have re1 : Rd wy3 G1 (B8 gB) := own_rdv (show wy3.ownsRow w6.heap.size 5 1 (.slice G1 gB.length gc1) gB.length (B8 gB) from hTy3.r 1 (by omega)); have re3 : Rd wy3 G3 (B8 gB) := own_rdv (show wy3.ownsRow w6.heap.size 5 1 (.slice G3 gB.length gc3) gB.length (B8 gB) from hTy3.r 3 (by omega))) | (go_at_call 20; refine (eqBytes_any G1 G3 gB.length gB.length gc1 gc3 gB gB rfl rfl (by omega) wy3 re1 re3).mono ?_; rintro e wz3 ⟨rfl, hbz3⟩; rw [decide_eq_true (rfl : gB = gB)]; skip))
                  all_goals (try go_wp2)
                  all_goals exact key42 _ _ (exists_frame rfl) ⟨_, _, _, hTy3.below hbz3, rfl, rfl⟩
                clear aK41
                go_region_law (first | ((try go_simp); go_at_call 22; refine ((hTy0.below (Below.drew (Below.refl _ _))).close (i := 1) (by omega) h00 oB rB hoB hrB).mono ?_; rintro e wx1 ⟨U1, uc1, rfl, ou1, _, hTx1⟩; rw [upd_q1] at hTx1; have zz1 : wx1.cell? ⟨w6.heap.size, 1, none⟩ = some (.slice bA OB.length bc) := hTx1.g.cell _) | ((try go_simp); go_at_call 19; refine (hTx1.join (j := 1) (by omega) _ U1 _ uc1 oB gB ou1 rfl ((hTy0.below (Below.drew (Below.refl _ _))).fresh ou1 (j := 1) (by omega)) hzB HGB.out).mono ?_; rintro e wy1 ⟨G1, gc1, rfl, hTy1⟩; rw [upd_q1, upd_q1] at hTy1; skip))
                all_goals (try go_wp2)
                all_goals exact key41 _ _ _ _ (exists_frame rfl) hTy1
              clear aK40
              go_region_law (first | ((try go_simp); go_at_call 22; refine ((hT.below (Below.drew (Below.refl _ _))).close (i := 0) (by omega) h00 oA rA hoA hrA).mono ?_; rintro e wx0 ⟨U0, uc0, rfl, ou0, _, hTx0⟩; rw [upd_q0] at hTx0; have zz0 : wx0.cell? ⟨w6.heap.size, 0, none⟩ = some (.slice aA OA.length ac) := hTx0.g.cell _) | ((try go_simp); go_at_call 19; refine (hTx0.join (j := 0) (by omega) _ U0 _ uc0 oA gA ou0 rfl ((hT.below (Below.drew (Below.refl _ _))).fresh ou0 (j := 0) (by omega)) hzA HGA.out).mono ?_; rintro e wy0 ⟨G0, gc0, rfl, hTy0⟩; rw [upd_q0, upd_q0] at hTy0; skip))
              all_goals (try go_wp2)
              all_goals exact key40 _ _ _ _ (exists_frame rfl) hTy0
    · obtain ⟨k2, hk2⟩ : ∃ k2, newE bs ps two = k2 := ⟨_, rfl⟩
      rw [hk2] at e2
      have N2 := Lib.hid (fun (w' : World) (hb : Below w.heap.size w w') => new_bad A A' S2 n m tn c c' tc bs ps two w' (hv.below hb) hwf h2 (r2.below hb) htn k2 hk2 e2)
      have hd : (k2 != 0) = true := by simpa using e2
      clear e1 hv r1 r2 hk2
      go_wp2_with fail
      refine (N1.out _ hb).mono ?_
      rintro e v0 ⟨hbn, p0, hp0, rfl, hs0, hl0⟩
      replace q0 := q0.below hbn
      replace hb := bthen hb hbn
      clear hbn y0 y1
      have y0 : v0.cell? ⟨w.heap.size, 0, none⟩ = some (.slice A n c) := q0.cell _
      have y1 : v0.cell? ⟨w.heap.size, 1, none⟩ = some (.slice A' m c') := q0.cell _
      go_wp2_with fail
      refine (N2.out _ hb).mono ?_
      rintro e v1 ⟨hbn, rfl⟩
      replace q0 := q0.below hbn
      replace hb := bthen hb hbn
      clear hbn y0 y1
      have y0 : v1.cell? ⟨w.heap.size, 0, none⟩ = some (.slice A n c) := q0.cell _
      have y1 : v1.cell? ⟨w.heap.size, 1, none⟩ = some (.slice A' m c') := q0.cell _
      go_wp2_with fail
      refine (N1.out _ hb).mono ?_
      rintro e v2 ⟨hbn, p2, hp2, rfl, hs2, hl2⟩
      replace q0 := q0.below hbn
      replace hb := bthen hb hbn
      clear hbn y0 y1
      have y0 : v2.cell? ⟨w.heap.size, 0, none⟩ = some (.slice A n c) := q0.cell _
      have y1 : v2.cell? ⟨w.heap.size, 1, none⟩ = some (.slice A' m c') := q0.cell _
      go_wp2_with fail
      refine (N2.out _ hb).mono ?_
      rintro e v3 ⟨hbn, rfl⟩
      replace q0 := q0.below hbn
      replace hb := bthen hb hbn
      clear hbn y0 y1
      have y0 : v3.cell? ⟨w.heap.size, 0, none⟩ = some (.slice A n c) := q0.cell _
      have y1 : v3.cell? ⟨w.heap.size, 1, none⟩ = some (.slice A' m c') := q0.cell _
      have HB := Lib.hid hb
      clear hb q0 y0 y1
      go_wp2
      go_returns
      exact ⟨rfl, HB.out⟩
  · obtain ⟨k1, hk1⟩ : ∃ k1, newE bs ps one = k1 := ⟨_, rfl⟩
    rw [hk1] at e1
    have N1 := Lib.hid (fun (w' : World) (hb : Below w.heap.size w w') => new_bad A A' S1 n m sn c c' sc bs ps one w' (hv.below hb) hwf h1 (r1.below hb) hsn k1 hk1 e1)
    have hd1 : (k1 != 0) = true := by simpa using e1
    by_cases e2 : newE bs ps two = 0
    · have N2 := Lib.hid (fun (w' : World) (hb : Below w.heap.size w w') => new_ok A A' S2 n m tn c c' tc bs ps two w' (hv.below hb) hwf h2 (r2.below hb) htn e2)
      clear e2 hv r1 r2 hk1
      go_wp2_with fail
      refine (N1.out _ hb).mono ?_
      rintro e v0 ⟨hbn, rfl⟩
      replace q0 := q0.below hbn
      replace hb := bthen hb hbn
      clear hbn y0 y1
      have y0 : v0.cell? ⟨w.heap.size, 0, none⟩ = some (.slice A n c) := q0.cell _
      have y1 : v0.cell? ⟨w.heap.size, 1, none⟩ = some (.slice A' m c') := q0.cell _
      go_wp2_with fail
      refine (N2.out _ hb).mono ?_
      rintro e v1 ⟨hbn, p1, hp1, rfl, hs1, hl1⟩
      replace q0 := q0.below hbn
      replace hb := bthen hb hbn
      clear hbn y0 y1
      have y0 : v1.cell? ⟨w.heap.size, 0, none⟩ = some (.slice A n c) := q0.cell _
      have y1 : v1.cell? ⟨w.heap.size, 1, none⟩ = some (.slice A' m c') := q0.cell _
      go_wp2_with fail
      refine (N1.out _ hb).mono ?_
      rintro e v2 ⟨hbn, rfl⟩
      replace q0 := q0.below hbn
      replace hb := bthen hb hbn
      clear hbn y0 y1
      have y0 : v2.cell? ⟨w.heap.size, 0, none⟩ = some (.slice A n c) := q0.cell _
      have y1 : v2.cell? ⟨w.heap.size, 1, none⟩ = some (.slice A' m c') := q0.cell _
      go_wp2_with fail
      refine (N2.out _ hb).mono ?_
      rintro e v3 ⟨hbn, p3, hp3, rfl, hs3, hl3⟩
      replace q0 := q0.below hbn
      replace hb := bthen hb hbn
      clear hbn y0 y1
      have y0 : v3.cell? ⟨w.heap.size, 0, none⟩ = some (.slice A n c) := q0.cell _
      have y1 : v3.cell? ⟨w.heap.size, 1, none⟩ = some (.slice A' m c') := q0.cell _
      have HB := Lib.hid hb
      clear hb q0 y0 y1
      go_wp2
      go_returns
      exact ⟨rfl, HB.out⟩
    · obtain ⟨k2, hk2⟩ : ∃ k2, newE bs ps two = k2 := ⟨_, rfl⟩
      rw [hk2] at e2
      have N2 := Lib.hid (fun (w' : World) (hb : Below w.heap.size w w') => new_bad A A' S2 n m tn c c' tc bs ps two w' (hv.below hb) hwf h2 (r2.below hb) htn k2 hk2 e2)
      have hd : (k2 != 0) = true := by simpa using e2
      clear hv r1 r2 hk1 hk2
      go_wp2_with fail
      refine (N1.out _ hb).mono ?_
      rintro e v0 ⟨hbn, rfl⟩
      replace q0 := q0.below hbn
      replace hb := bthen hb hbn
      clear hbn y0 y1
      have y0 : v0.cell? ⟨w.heap.size, 0, none⟩ = some (.slice A n c) := q0.cell _
      have y1 : v0.cell? ⟨w.heap.size, 1, none⟩ = some (.slice A' m c') := q0.cell _
      go_wp2_with fail
      refine (N2.out _ hb).mono ?_
      rintro e v1 ⟨hbn, rfl⟩
      replace q0 := q0.below hbn
      replace hb := bthen hb hbn
      clear hbn y0 y1
      have y0 : v1.cell? ⟨w.heap.size, 0, none⟩ = some (.slice A n c) := q0.cell _
      have y1 : v1.cell? ⟨w.heap.size, 1, none⟩ = some (.slice A' m c') := q0.cell _
      go_wp2_with fail
      refine (N1.out _ hb).mono ?_
      rintro e v2 ⟨hbn, rfl⟩
      replace q0 := q0.below hbn
      replace hb := bthen hb hbn
      clear hbn y0 y1
      have y0 : v2.cell? ⟨w.heap.size, 0, none⟩ = some (.slice A n c) := q0.cell _
      have y1 : v2.cell? ⟨w.heap.size, 1, none⟩ = some (.slice A' m c') := q0.cell _
      go_wp2_with fail
      refine (N2.out _ hb).mono ?_
      rintro e v3 ⟨hbn, rfl⟩
      replace q0 := q0.below hbn
      replace hb := bthen hb hbn
      clear hbn y0 y1
      have y0 : v3.cell? ⟨w.heap.size, 0, none⟩ = some (.slice A n c) := q0.cell _
      have y1 : v3.cell? ⟨w.heap.size, 1, none⟩ = some (.slice A' m c') := q0.cell _
      have HB := Lib.hid hb
      clear hb q0 y0 y1
      go_wp2
      go_returns
      exact ⟨rfl, HB.out⟩
end Go.Proofs.Ytcambbnmeiolgaa
