import Derived.Test.YtcambbnmeiolgaaCaB
import Derived.Test.YtcambbnmeiolgaaNewW
import Derived.ArgAppend
namespace Go.Proofs.Ytcambbnmeiolgaa
open Go.RowKit
/-! The reference's Close, Over; Feed of none -/
/-- what the reference's Close leaves -/
def ClsOutR (w : World) (r : Nat) (Av Av' As cv : Value) (sts : List (List UInt8)) (s : S3) (N : Nat) (en : Ending) (w' : World) : Prop :=
  ∃ u cv' came' given' long', en = .returned u ∧ w'.ownsRow w.heap.size 5 1 u s.2.1.length (B8 s.2.1) ∧ RfS w r Av Av' As cv w' cv' came' given' true long' ∧ RefB sts (s.1, [], s.2.2) given' (toU came') true long' ∧ came'.length ≤ N ∧ (∀ x ∈ came', 0 ≤ x ∧ x < 256)
set_option maxRecDepth 100000 in
set_option maxHeartbeats 2000000 in
theorem clsR_any (w : World) (r : Nat) (A A' S : Option Addr) (n m sn c c' sc : Nat) (cv : Value) (strs : List ByteArray)
    (hst : ∀ w', Kp (Rch r cv) w w' → Rd w' S (strs.map Value.string)) (hS : strs.length = sn) (hsn : sn ≤ 140737488355328) (h16 : ∀ s ∈ strs, 1 ≤ s.size ∧ s.size ≤ 16)
    (came : List Int) (given long : Nat) (done : Bool) (t : List UInt8) (h : RfS w r (.slice A n c) (.slice A' m c') (.slice S sn sc) cv w cv came given done long) (hB : RefB (strs.map lst) (t, [], done) given (toU came) done long) (hN : came.length ≤ 70368744177664) (hby : ∀ x ∈ came, 0 ≤ x ∧ x < 256) :
    Calls Try.prog 40 #[.pointer (some ⟨r, 0, none⟩)] w (ClsOutR w r (.slice A n c) (.slice A' m c') (.slice S sn sc) cv (strs.map lst) (endU (t, [], done)) came.length) := by
  have a3 : (⟨r, 0, none⟩ : Addr).add 3 = ⟨r, 3, none⟩ := by simpa using addr_add r 0 3
  have a5 : (⟨r, 0, none⟩ : Addr).add 5 = ⟨r, 5, none⟩ := by simpa using addr_add r 0 5
  have a6 : (⟨r, 0, none⟩ : Addr).add 6 = ⟨r, 6, none⟩ := by simpa using addr_add r 0 6
  have x5 : w.cell? ⟨r, 5, none⟩ = some (.bool done) := h.bk.cell _
  cases done with
  | true =>
    have OUT := Lib.hid (show ClsOutR w r (.slice A n c) (.slice A' m c') (.slice S sn sc) cv (strs.map lst) (endU (t, [], true)) came.length (.returned (.slice none 0 0)) w from
      ⟨_, cv, came, given, long, rfl, World.ownsRow_nil _ _ _ _, h, hB, Nat.le_refl _, hby⟩)
    clear h hB hst
    go_enter Try.func40, Try.ntmps40
    go_wp2
    go_returns
    exact OUT.out
  | false =>
    obtain ⟨cA, cc, hcv, _, _⟩ := own_rd h.ow
    have x3 : w.cell? ⟨r, 3, none⟩ = some (.slice cA came.length cc) := by rw [← hcv]; exact h.bk.cell _
    have z5 := h.bk.frozen 5
    have y3 : (w.setCell ⟨r, 5, none⟩ (.bool true)).cell? ⟨r, 3, none⟩ = some (.slice cA came.length cc) := by rw [← hcv]; exact (h.setDone true).bk.cell _
    have y6 : (w.setCell ⟨r, 5, none⟩ (.bool true)).cell? ⟨r, 6, none⟩ = some (.int .i64 (long : Int)) := (h.setDone true).bk.cell _
    have v6 := (h.setDone true).bk.frozen 6
    have hB2 := refB_end hB
    rw [toU_length] at hB2
    have GIV := Lib.hid (gives_any w _ r A A' S n m sn c c' sc cv cv strs hst hS hsn h16 came given came.length true _ ((h.setDone true).setLong came.length) hB2 hN hby)
    have HB2 := Lib.hid hB2
    clear h hB hst x3 hB2 hcv
    go_enter Try.func40, Try.ntmps40
    go_wp2_with fail
    refine GIV.out.mono ?_
    rintro e w4 ⟨u, rfl, ho, hr⟩
    have OUT := Lib.hid (show ClsOutR w r (.slice A n c) (.slice A' m c') (.slice S sn sc) cv (strs.map lst) (endU (t, [], false)) came.length (.returned u) w4 from
      ⟨u, cv, came, _, came.length, rfl, own_base ho (by simp [World.setCell]), hr, refB_take HB2.out, Nat.le_refl _, hby⟩)
    clear ho hr
    go_wp2
    go_returns
    exact OUT.out
set_option maxRecDepth 100000 in
theorem clsR_nil (w : World) : Calls Try.prog 40 #[.pointer none] w fun en w' => en = .returned (.slice none 0 0) ∧ w = w' := by
  go_enter Try.func40, Try.ntmps40
  go_wp2
  go_returns
  exact ⟨rfl, rfl⟩
set_option maxRecDepth 100000 in
theorem ovrR_nil (w : World) : Calls Try.prog 41 #[.pointer none] w fun en w' => en = .returned (.bool false) ∧ w = w' := by
  go_enter Try.func41, Try.ntmps41
  go_wp2
  go_returns
  exact ⟨rfl, rfl⟩
set_option maxRecDepth 100000 in
theorem ovrR_any (w : World) (r : Nat) (Av Av' As cv : Value) (given : Nat) (done : Bool) (long : Nat) (h : Blk w r (RC Av Av' As cv given done long) 98) : Calls Try.prog 41 #[.pointer (some ⟨r, 0, none⟩)] w fun en w' => en = .returned (.bool done) ∧ w = w' := by
  have a5 : (⟨r, 0, none⟩ : Addr).add 5 = ⟨r, 5, none⟩ := by simpa using addr_add r 0 5
  have x5 : w.cell? ⟨r, 5, none⟩ = some (.bool done) := h.cell _
  go_enter Try.func41, Try.ntmps41
  go_wp2
  go_returns
  exact ⟨rfl, rfl⟩
set_option maxRecDepth 100000 in
theorem fedR_nil (A : Option Addr) (n c : Nat) (w : World) : Calls Try.prog 37 #[.pointer none, .slice A n c] w fun en w' => en = .returned (.tuple #[.slice none 0 0, .int .i64 1]) ∧ w = w' := by
  go_enter Try.func37, Try.ntmps37
  go_wp2
  go_returns
  exact ⟨rfl, rfl⟩
end Go.Proofs.Ytcambbnmeiolgaa
namespace Go.Proofs.Ytcambbnmeiolgaa
open Go.RowKit
/-! The reference's New -/
def NewOutR (w : World) (bs : List Int) (ps : List (Int × Int)) (strs : List ByteArray) (en : Ending) (w' : World) : Prop :=
  Below w.heap.size w w' ∧ ((newE bs ps strs ≠ 0 ∧ en = .returned (.tuple #[.pointer none, .int .i64 (newE bs ps strs)])) ∨ (newE bs ps strs = 0 ∧ ∃ r v u sv, w.heap.size ≤ r ∧ en = .returned (.tuple #[.pointer (some ⟨r, 0, none⟩), .int .i64 0]) ∧ Blk w' r (RC v u sv (.slice none 0 0) 0 false 0) 98 ∧ w'.ownsRow w.heap.size 5 1 v bs.length (B8 bs) ∧ w'.ownsRow w.heap.size 95 2 u ps.length (PR ps) ∧ w'.ownsRow w.heap.size 9 1 sv strs.length (strs.map Value.string)))
set_option maxRecDepth 100000 in
set_option maxHeartbeats 4000000 in
theorem newR_any (A A' S : Option Addr) (n m sn c c' sc : Nat) (bs : List Int) (ps : List (Int × Int)) (strs : List ByteArray) (w : World) (hv : Voc w A A' n m bs ps) (hl : strs.length = sn) (hr : Rd w S (strs.map Value.string)) (hsn : sn ≤ 140737488355328) :
    Calls Try.prog 33 #[.agg #[.slice A n c, .slice A' m c'], .slice S sn sc] w (NewOutR w bs ps strs) := by
  have h0 : Below w.heap.size w (w.alloc (.cells #[.slice A n c, .slice A' m c'] 37)) := by go_grown
  have q0 := Blk.new w #[.slice A n c, .slice A' m c'] 37
  go_enter Try.func33, Try.ntmps33
  go_wp2_with fail
  refine (refCheck_any A A' n m c c' bs ps _ (hv.below h0)).mono ?_
  rintro e w1 ⟨rfl, hb⟩
  replace q0 := q0.below hb
  replace hb := bthen h0 hb
  have hM := q0.lt
  clear h0
  cases hq : vocF bs ps with
  | none =>
    have he := newE_voc (strs := strs) hq
    have he2 : errV bs ps = 50 := by unfold errV; rw [hq]; rfl
    rw [he2]
    have NO := Lib.hid (show NewOutR w bs ps strs (.returned (.tuple #[.pointer none, .int .i64 50])) w1 from ⟨hb, .inl ⟨by rw [he]; decide, by rw [he]⟩⟩)
    clear hq he he2
    go_wp2
    go_returns
    exact NO.out
  | some ls =>
    have he2 : errV bs ps = 0 := by unfold errV; rw [hq]; rfl
    have HQ := Lib.hid hq
    rw [he2]
    clear hq he2
    by_cases h4 : 4 < sn
    · have he := newE_bad (strs := strs) HQ.out (.inl (by omega))
      have NO := Lib.hid (show NewOutR w bs ps strs (.returned (.tuple #[.pointer none, .int .i64 180])) w1 from ⟨hb, .inl ⟨by rw [he]; decide, by rw [he]⟩⟩)
      have g1 : (4 : Int) < (sn : Int) := by omega
      clear he
      go_wp2
      go_returns
      exact NO.out
    · have g1 : ¬ (4 : Int) < (sn : Int) := by omega
      have y0 : w1.cell? ⟨w.heap.size, 0, none⟩ = some (.slice A n c) := q0.cell _
      have y1 : w1.cell? ⟨w.heap.size, 1, none⟩ = some (.slice A' m c') := q0.cell _
      have hv1 := hv.below hb
      go_wp2_with fail
      refine (copyVocab_any A A' n m c c' bs ps hv.hn hv.hm hv.b1 hv.b2 w1 hv1.hx hv1.hy).mono ?_
      rintro e w2 ⟨v, u, rfl, ov, ou, hb2⟩
      have hz1 := hb.size
      replace ov := own_base ov hz1
      replace ou := own_base ou hz1
      replace hb := bthen hb hb2
      obtain ⟨vA, vc, rfl, _, _⟩ := own_rd ov
      obtain ⟨uA, uc, rfl, _, _⟩ := own_rd ou
      rw [← hv.hn] at ov
      rw [← hv.hm] at ou
      have hP := hb.size
      clear y0 y1 hv1 q0 hM hb2
      have hsn2 := hv.hn
      have hsm2 := hv.hm
      have a2 : (⟨w2.heap.size, 0, none⟩ : Addr).add 2 = ⟨w2.heap.size, 2, none⟩ := by simpa using addr_add w2.heap.size 0 2
      have k1 := Blk.new w2 (RC (.slice vA n vc) (.slice uA m uc) (.slice none 0 0) (.slice none 0 0) 0 false 0) 98
      have hb2 : Below w.heap.size w (w2.alloc (.cells (RC (.slice vA n vc) (.slice uA m uc) (.slice none 0 0) (.slice none 0 0) 0 false 0) 98)) := hb.alloc hb.size _
      replace ov := ov.alloc (.cells (RC (.slice vA n vc) (.slice uA m uc) (.slice none 0 0) (.slice none 0 0) 0 false 0) 98)
      replace ou := ou.alloc (.cells (RC (.slice vA n vc) (.slice uA m uc) (.slice none 0 0) (.slice none 0 0) 0 false 0) 98)
      rw [hsn2] at ov
      rw [hsm2] at ou
      go_wp2
      generalize (w2.alloc (.cells (RC (.slice vA n vc) (.slice uA m uc) (.slice none 0 0) (.slice none 0 0) 0 false 0) 98)) = w3 at *
      generalize w2.heap.size = r at *
      clear hb
      go_loopw [8] (fun iv wr => ∃ (k : Nat) (sv : Value), k ≤ sn ∧ iv = .int .i64 (k : Int) ∧ Blk wr r (RC (.slice vA n vc) (.slice uA m uc) sv (.slice none 0 0) 0 false 0) 98 ∧ wr.ownsRow w.heap.size 9 1 sv k ((strs.take k).map Value.string) ∧ (∀ s ∈ strs.take k, ¬ badS s) ∧ wr.ownsRow w.heap.size 5 1 (.slice vA n vc) n (B8 bs) ∧ wr.ownsRow w.heap.size 95 2 (.slice uA m uc) m (PR ps) ∧ Below w.heap.size w wr) (fun iv _ => sn - (intOf iv).toNat)
      case atStart => exact ⟨0, _, by omega, rfl, k1, World.ownsRow_nil _ _ _ _, by simp, ov, ou, hb2⟩
      case round =>
        clear k1 ov ou hb2
        obtain ⟨k, sv, hk, rfl, k1, os, hgood, ov, ou, hb⟩ := hrel
        by_cases hlt : k < sn
        · have g2 : (k : Int) < (sn : Int) := by omega
          obtain ⟨b, of, rfl, y0⟩ := (hr.below hb).at k (by rw [List.length_map]; omega)
          rw [List.getElem_map] at y0
          have ea := addr_add b of k
          have TS := Lib.hid (List.take_succ_eq_append_getElem (show k < strs.length by omega))
          have GD := Lib.hid hgood
          have hmem : strs[k] ∈ strs := List.getElem_mem _
          have BD := Lib.hid (fun (h : badS (strs[k]'(by omega))) => newE_bad (strs := strs) HQ.out (.inr ⟨strs[k], hmem, h⟩))
          clear hgood hmem
          generalize strs[k] = st at *
          by_cases hz : st.size = 0
          · have he := BD.out (.inl hz)
            have g3 : (st.size : Int) < 1 := by omega
            have NO := Lib.hid (show NewOutR w bs ps strs (.returned (.tuple #[.pointer none, .int .i64 180])) wr from ⟨hb, .inl ⟨by rw [he]; decide, by rw [he]⟩⟩)
            clear he k1 os ov ou hz
            go_wp2
            go_returns
            exact NO.out
          · have g3 : ¬ (st.size : Int) < 1 := by omega
            by_cases h16 : 16 < st.size
            · have g4 : (16 : Int) < (st.size : Int) := by omega
              have he := BD.out (.inr h16)
              have NO := Lib.hid (show NewOutR w bs ps strs (.returned (.tuple #[.pointer none, .int .i64 180])) wr from ⟨hb, .inl ⟨by rw [he]; decide, by rw [he]⟩⟩)
              clear he k1 os ov ou
              go_wp2
              go_returns
              exact NO.out
            · have g4 : ¬ (16 : Int) < (st.size : Int) := by omega
              have NB := Lib.hid (show ¬ badS st from fun h => by rcases h with h | h <;> omega)
              obtain ⟨sA, scp, rfl, _, _⟩ := own_rd os
              have y1 : wr.cell? ⟨r, 2, none⟩ = some (.slice sA k scp) := k1.cell _
              have y1' : ((wr.alloc (.cells #[.string st] 9)).drew).cell? ⟨r, 2, none⟩ = some (.slice sA k scp) := ((k1.alloc _).drew).cell _
              have hp1 := k1.lt
              have hns := k1.not_row (by decide) os
              clear BD hz h16
              go_wp2
              go_region_law ((refine appStep (w0 := w) w.heap.size rfl _ _ 38 9 (.string ⟨#[]⟩) 1 16 rfl Try.underlying38 info9 rfl (by decide) (by decide) (.slice sA k scp) k ((strs.take k).map Value.string) wr.heap.size #[.string st] rfl rfl rfl (by simp [Value.oneCell']) (Blk.new wr _ 9) (os.alloc _) (hb.alloc hb.size _).drew (by simp; have := hb.size; omega) (by omega) ?_; intro g cap w4 os4 hb4 hg4 hat4; have k4 := ((k1.alloc (.cells #[.string st] 9)).drew).kept hg4 hns; have z1 : w4.cell? ⟨r, 2, none⟩ = some (.slice sA k scp) := k4.cell _; have z2 := k4.frozen 2))
              all_goals
                have k6 := k4.set 2 (.slice (some ⟨g, 0, none⟩) (k + 1) cap)
                have os6 := own_set_other os4 r 2 (.slice (some ⟨g, 0, none⟩) (k + 1) cap) (k4.not_row (by decide) os4)
                have ov4 := World.ownsRow.kept (show (wr.alloc (.cells #[.string st] 9)).drew.ownsRow _ _ _ _ _ _ from ov.alloc (.cells #[.string st] 9)) hg4 (own_type_ne ov os (by decide))
                have ou4 := World.ownsRow.kept (show (wr.alloc (.cells #[.string st] 9)).drew.ownsRow _ _ _ _ _ _ from ou.alloc (.cells #[.string st] 9)) hg4 (own_type_ne ou os (by decide))
                have ov6 := own_set_other ov4 r 2 (.slice (some ⟨g, 0, none⟩) (k + 1) cap) (k4.not_row (by decide) ov4)
                have ou6 := own_set_other ou4 r 2 (.slice (some ⟨g, 0, none⟩) (k + 1) cap) (k4.not_row (by decide) ou4)
                have hb7 := hb4.setCell (p := ⟨r, 2, none⟩) hP (.slice (some ⟨g, 0, none⟩) (k + 1) cap)
                clear k1 os ov ou hb y0 y1 y1' hp1 hns z1 z2 k4 os4 ov4 ou4 hb4 hg4 hat4
                go_wp2
                go_roundw
                case rel => exact ⟨k + 1, _, by omega, by go_num, k6, by rw [TS.out, List.map_append]; exact os6, by rw [TS.out]; intro s hs; rcases List.mem_append.1 hs with h | h; exact GD.out s h; simp at h; rw [h]; exact NB.out, ov6, ou6, hb7⟩
                case measure => simp [intOf]; omega
        · obtain rfl : k = sn := by omega
          have hF : strs.take k = strs := List.take_of_length_le (by omega)
          rw [hF] at os hgood
          have hE0 := newE_ok HQ.out (by omega) hgood
          have NO := Lib.hid (show NewOutR w bs ps strs (.returned (.tuple #[.pointer (some ⟨r, 0, none⟩), .int .i64 0])) wr from ⟨hb, .inr ⟨hE0, r, _, _, sv, hP, rfl, k1, by rw [hsn2]; exact ov, by rw [hsm2]; exact ou, by rw [hl]; exact os⟩⟩)
          clear hF hgood os k1 ov ou hE0
          go_wp2
          go_returns
          exact NO.out
end Go.Proofs.Ytcambbnmeiolgaa
namespace Go.Proofs.Ytcambbnmeiolgaa
open Go.RowKit
/-! The law's words, eqWords, tokens, sign -/
def markS : ByteArray := ⟨#[109, 97, 114, 107]⟩
def SV (l : List ByteArray) : List Value := l.map Value.string
theorem SV_snoc (l : List ByteArray) (x : ByteArray) : SV l ++ (#[Value.string x]).toList = SV (l ++ [x]) := by simp [SV]
set_option maxHeartbeats 1000000 in
theorem words_any (A : Option Addr) (n c : Nat) (xs : List ByteArray) (hn : xs.length = n) (hm : n ≤ 1048576) (w : World) (hx : Rd w A (SV xs)) :
    Calls Try.prog 32 #[.slice A n c] w fun e w' => ∃ v, e = .returned v ∧ w'.ownsRow w.heap.size 9 1 v (n + 64) (SV (xs ++ List.replicate 64 markS)) ∧ Below w.heap.size w w' := by
  go_enter Try.func32, Try.ntmps32
  go_wp2
  go_loopw [3, 4] (fun v i wr => ∃ k : Nat, k ≤ n ∧ i = .int .i64 k ∧ wr.ownsRow w.heap.size 9 1 v k (SV (xs.take k)) ∧ Below w.heap.size w wr) (fun _ i _ => n - (intOf i).toNat)
  case atStart => exact ⟨0, by omega, rfl, World.ownsRow_nil _ _ _ _, Below.refl _ _⟩
  case round =>
    obtain ⟨k, hk, rfl, ho, hb⟩ := hrel
    by_cases hlt : k < n
    · have g1 : (k : Int) < (n : Int) := by omega
      obtain ⟨b, o, rfl, h1⟩ := (hx.below hb).at k (by unfold SV; rw [List.length_map]; omega)
      rw [show (SV xs)[k]'(by unfold SV; rw [List.length_map]; omega) = .string (xs[k]'(by omega)) by unfold SV; rw [List.getElem_map]] at h1
      have ea := addr_add b o k
      have T1 := Lib.hid (List.take_succ_eq_append_getElem (show k < xs.length by omega))
      generalize hxv : xs[k]'(by omega) = x at *
      clear hxv
      go_wp2_with (at_builtin; refine app _ rfl _ _ 38 9 (.string ⟨#[]⟩) 1 16 rfl Try.underlying38 info9 rfl (by decide) (by decide) _ k _ _ rfl rfl rfl (by simp [Value.oneCell']) ho hb hb.size (by omega) ?_; intro g cap w1 ho1 hb1 _ _; rw [SV_snoc, ← T1.out] at ho1)
      go_roundw
      case rel => exact ⟨k + 1, by omega, by go_num, ho1, hb1⟩
      case measure => simp [intOf]; omega
    · have hkn : xs.take k = xs := List.take_of_length_le (by omega)
      rw [hkn] at ho
      obtain rfl : k = n := by omega
      go_wp2
      clear hkn
      go_loopw [3, 5] (fun v i wr => ∃ j : Nat, j ≤ 64 ∧ i = .int .i64 j ∧ wr.ownsRow w.heap.size 9 1 v (k + j) (SV (xs ++ List.replicate j markS)) ∧ Below w.heap.size w wr) (fun _ i _ => 64 - (intOf i).toNat)
      case atStart => exact ⟨0, by omega, rfl, by simpa using ho, hb⟩
      case round =>
        clear ho hb
        obtain ⟨j, hj, rfl, ho, hb⟩ := hrel
        by_cases hlt : j < 64
        · have g2 : (j : Int) < 64 := by omega
          have T1 := Lib.hid (show List.replicate (j + 1) markS = List.replicate j markS ++ [markS] from List.replicate_succ')
          go_wp2_with (at_builtin; refine app _ rfl _ _ 38 9 (.string ⟨#[]⟩) 1 16 rfl Try.underlying38 info9 rfl (by decide) (by decide) _ (k + j) _ _ rfl rfl rfl (by simp [Value.oneCell']) ho hb hb.size (by omega) ?_; intro g cap w1 ho1 hb1 _ _; rw [SV_snoc, List.append_assoc, ← markS, ← T1.out, Nat.add_assoc] at ho1)
          go_roundw
          case rel => exact ⟨j + 1, by omega, by go_num, ho1, hb1⟩
          case measure => simp [intOf]; omega
        · obtain rfl : j = 64 := by omega
          go_wp2
          go_returns
          exact ⟨_, rfl, ho, hb⟩
set_option maxHeartbeats 1000000 in
theorem eqWords_same (A A' : Option Addr) (n c c' : Nat) (xs : List ByteArray) (hn : xs.length = n) (hm : n ≤ 2000000) (w : World) (hx : Rd w A (SV xs)) (hy : Rd w A' (SV xs)) :
    Calls Try.prog 35 #[.slice A n c, .slice A' n c'] w fun e w' => e = .returned (.bool true) ∧ Below w.heap.size w w' := by
  go_enter Try.func35, Try.ntmps35
  go_wp2
  go_loopw [5] (fun i wr => ∃ k : Nat, k ≤ n ∧ i = .int .i64 k ∧ Below w.heap.size w wr) (fun i _ => n - (intOf i).toNat)
  case atStart => exact ⟨0, by omega, rfl, Below.refl _ _⟩
  case round =>
    obtain ⟨k, hk, rfl, hb⟩ := hrel
    by_cases hlt : k < n
    · have g1 : (k : Int) < (n : Int) := by omega
      obtain ⟨b, o, rfl, h1⟩ := (hx.below hb).at k (by unfold SV; rw [List.length_map]; omega)
      obtain ⟨b', o', rfl, h2⟩ := (hy.below hb).at k (by unfold SV; rw [List.length_map]; omega)
      rw [show (SV xs)[k]'(by unfold SV; rw [List.length_map]; omega) = .string (xs[k]'(by omega)) by unfold SV; rw [List.getElem_map]] at h1 h2
      have ea := addr_add b o k
      have eb := addr_add b' o' k
      generalize hxv : xs[k]'(by omega) = x at *
      clear hxv
      have hq : (x.toList == x.toList) = true := by simp
      go_wp2
      go_quiet (fail)
      all_goals go_wp2
      go_roundw
      case rel => exact ⟨k + 1, by omega, by go_num, bdraw hb _⟩
      case measure => simp [intOf]; omega
    · have g1 : ¬ (k : Int) < (n : Int) := by omega
      go_wp2
      go_returns
      exact ⟨rfl, hb⟩
def tokM (j : Nat) : List Int := (List.range j).map fun (i : Nat) => -(i : Int)
theorem tokM_succ (j : Nat) : tokM (j + 1) = tokM j ++ [-(j : Int)] := by simp [tokM, List.range_succ]
set_option maxHeartbeats 1000000 in
theorem tokens_any (A : Option Addr) (n c : Nat) (xs : List Int) (hn : xs.length = n) (hm : n ≤ 1048576) (w : World) (hx : Rd w A (I64 xs)) :
    Calls Try.prog 36 #[.slice A n c] w fun e w' => ∃ v, e = .returned v ∧ w'.ownsRow w.heap.size 3 1 v (n + 64) (I64 (xs ++ tokM 64)) ∧ Below w.heap.size w w' := by
  go_enter Try.func36, Try.ntmps36
  go_wp2_with fail
  refine (copyInts_any A n c xs hn (by omega) w hx).mono ?_
  rintro e w1 ⟨v, rfl, ho, hb⟩
  go_wp2
  go_loopw [3, 4] (fun v i wr => ∃ j : Nat, j ≤ 64 ∧ i = .int .i64 j ∧ wr.ownsRow w.heap.size 3 1 v (n + j) (I64 (xs ++ tokM j)) ∧ Below w.heap.size w wr) (fun _ i _ => 64 - (intOf i).toNat)
  case atStart => exact ⟨0, by omega, rfl, by simpa [tokM] using ho, hb⟩
  case round =>
    clear ho hb
    obtain ⟨j, hj, rfl, ho, hb⟩ := hrel
    by_cases hlt : j < 64
    · have g2 : (j : Int) < 64 := by omega
      have T1 := Lib.hid (tokM_succ j)
      have hw1 : IntKind.i64.wrap (-(j : Int)) = -(j : Int) := IntWalk.i64_in _ (by omega)
      go_wp2_with (at_builtin; refine app _ rfl _ _ 39 3 (.int .i64 0) 1 8 rfl Try.underlying39 info3 rfl (by decide) (by decide) _ (n + j) _ _ rfl rfl rfl (by simp [Value.oneCell']) ho hb hb.size (by omega) ?_; intro g cap w1 ho1 hb1 _ _; rw [I64_snoc, List.append_assoc, ← T1.out, Nat.add_assoc] at ho1)
      go_roundw
      case rel => exact ⟨j + 1, by omega, by go_num, ho1, hb1⟩
      case measure => simp [intOf]; omega
    · obtain rfl : j = 64 := by omega
      go_wp2
      go_returns
      exact ⟨_, rfl, ho, hb⟩
/-- the i-th byte of the mark of list n -/
def sgn (n i : Nat) : Nat := n / 128 ^ (i % 3) % 128
set_option maxHeartbeats 1000000 in
theorem sign_any (n i : Nat) (hn : n ≤ 4611686018427387904) (hi : i ≤ 4611686018427387904) (w : World) :
    Calls Try.prog 43 #[.int .i64 (n : Int), .int .i64 (i : Int)] w fun e w' => e = .returned (.int .u8 (sgn n i : Int)) ∧ w = w' := by
  have hr : (i : Int).tmod 3 = ((i % 3 : Nat) : Int) := by rw [Int.tmod_eq_emod_of_nonneg (by omega)]; omega
  go_enter Try.func43, Try.ntmps43
  go_wp2
  go_loop [0, 5] (fun v k => ∃ j : Nat, j ≤ i % 3 ∧ k = .int .i64 (j : Int) ∧ v = .int .i64 ((n / 128 ^ j : Nat) : Int)) (fun _ k => i % 3 - (intOf k).toNat)
  case atStart => exact ⟨0, by omega, rfl, by simp⟩
  case round =>
    obtain ⟨j, hj, rfl, rfl⟩ := hrel
    have hle : n / 128 ^ j ≤ n := Nat.div_le_self _ _
    have hnx : n / 128 ^ (j + 1) = n / 128 ^ j / 128 := by rw [Nat.pow_succ, Nat.div_div_eq_div_mul]
    have HNX := Lib.hid hnx
    have SG := Lib.hid (show j = i % 3 → sgn n i = n / 128 ^ j % 128 from fun h => by unfold sgn; rw [h])
    clear hnx
    generalize n / 128 ^ j = q at *
    by_cases hlt : j < i % 3
    · have g1 : (j : Int) < ((i % 3 : Nat) : Int) := by omega
      have hd : (q : Int).tdiv 128 = ((q / 128 : Nat) : Int) := by rw [Int.tdiv_eq_ediv_of_nonneg (by omega)]; omega
      go_wp2
      go_round
      case rel => exact ⟨j + 1, by omega, by go_num, by rw [HNX.out]; go_num⟩
      case measure => simp [intOf]; omega
    · have g1 : ¬ (j : Int) < ((i % 3 : Nat) : Int) := by omega
      have hd : (q : Int).tmod 128 = ((q % 128 : Nat) : Int) := by rw [Int.tmod_eq_emod_of_nonneg (by omega)]; omega
      have hz : IntKind.u8.wrap ((q % 128 : Nat) : Int) = ((q % 128 : Nat) : Int) := IntWalk.u8_in _ (by omega)
      have SG2 := Lib.hid (SG.out (by omega))
      go_wp2
      go_returns
      exact ⟨by rw [SG2.out]; first | rfl | go_num, rfl⟩
end Go.Proofs.Ytcambbnmeiolgaa
namespace Go.Proofs.Ytcambbnmeiolgaa
open Go.RowKit
/-! append of one element onto a row of one's own: either it lies in the row's block, or nothing old is changed -/
section
variable {P : Program} {ops : Array Oper} {rest : List Oper} {o : Oper} {a : Act} {Q : Exit → Act → World → Prop}
theorem appK {W : World} (base : Nat) (hgd : o.guard = none) (s x : Operand) (t e : TypeId) (z : Value) (bytes : Nat)
    (ho : o.op = .call { callee := .builtin .append, args := #[s, x], argTypes := #[t, t] })
    (ht : P.underlying t = some (.slice e)) (hinfo : (P.info? e).map (fun i => (i.zero, i.size, i.bytes)) = some (some z, 1, bytes)) (hzs : z.cells.size = 1) (hb0 : 0 < bytes)
    (v : Value) (n : Nat) (xs : List Value) (y : Value) (hs : a.eval s = v) (hx : a.eval x = .slice (some ⟨W.heap.size, 0, none⟩) 1 1) (hy : y.oneCell' = true)
    (HO : W.ownsRow base e 1 v n xs) (hbase : base ≤ W.heap.size) (hle : (n + 1) * bytes ≤ 140737488355328)
    (h : ∀ g cap w1, w1.ownsRow base e 1 (.slice (some ⟨g, 0, none⟩) (n + 1) cap) (n + 1) (xs ++ [y]) → ((v.ownBlock = some g ∧ W.grownBy w1 (some g)) ∨ (W.heap.size ≤ g ∧ W.grownBy w1 none)) → wpList P ops Q rest (a.put o.dst (.slice (some ⟨g, 0, none⟩) (n + 1) cap)) w1) :
    wpList P ops Q (o :: rest) a (W.alloc (.cells #[y] e)) := by
  obtain ⟨i0, hi, hzz⟩ := Option.map_eq_some_iff.1 hinfo
  simp only [Prod.mk.injEq] at hzz
  obtain ⟨hz0, hz1, hz2⟩ := hzz
  have hlen : n + 1 ≤ 140737488355328 := Nat.le_trans (Nat.le_mul_of_pos_right _ hb0) hle
  have hnew := World.news_of_block (cs := #[y]) (t := e) (fr := (0, 0)) (MapKept.heap_alloc W (.cells #[y] e)).1
  have h1c : ∀ u ∈ [y], u.oneCell' = true := fun u hu => by rw [List.mem_singleton.1 hu]; exact hy
  have grow : ∀ v' w', w'.ownsRow (W.alloc (.cells #[y] e)).heap.size e 1 v' (n + 1) (xs ++ [y]) → (W.alloc (.cells #[y] e)).grownBy w' none → wpList P ops Q rest (a.put o.dst v') w' := fun v' w' hown hg => by
    rcases hown.2 with ⟨_, h0⟩ | ⟨g, cap, cur, rfl, hb, _⟩
    · omega
    · refine h g cap w' (own_base hown (by simp; omega)) (.inr ⟨by simp at hb; omega, World.grownBy.trans (World.grownBy_alloc W _ _) hg⟩)
  have hxl : xs.length = n * 1 := HO.1
  rcases HO.2 with ⟨rfl, rfl⟩ | ⟨g, cap, cur, rfl, hb, hB, h1, h2, h3, h4⟩
  · have hx0 : xs = [] := List.length_eq_zero_iff.1 (by omega)
    subst hx0
    exact wpList_append_grows (W.alloc (.cells #[y] e)) hgd s x t ho e i0 z 1 bytes ht hi hz0 hz1 hz2 hzs (by decide) none 0 0 [] hs (fun _ => ⟨rfl, rfl⟩) rfl (fun b hb => by cases hb) ⟨W.heap.size, 0, none⟩ 1 1 [y] hx rfl hnew h1c (by omega) (by simp only [maxLen]; omega) hle grow
  · have hB' : Blk (W.alloc (.cells #[y] e)) g cur e := Blk.alloc hB _
    have hcell : ∀ j u, xs[j]? = some u → (W.alloc (.cells #[y] e)).cell? ⟨g, 0 + j, none⟩ = some u := fun j u hu => by
      have hj := (List.getElem?_eq_some_iff.1 hu).1
      rw [Nat.zero_add, hB'.cell, ← hu, ← h4, List.getElem?_take_of_lt (by omega)]
      simp
    refine wpList_append_arg (W.alloc (.cells #[y] e)) hgd s x t ho e i0 z 1 bytes ht hi hz0 hz1 hz2 hzs (by decide) g 0 n cap xs hs hxl hcell ⟨W.heap.size, 0, none⟩ 1 1 [y] hx rfl hnew h1c (fun hr j hj => ?_) (by simp only [maxLen]; omega) hle (fun hroom => ?_) (fun _ => grow)
    · simp at hj
      subst hj
      exact ⟨by rw [hB'.cell, Array.getElem?_eq_getElem (by omega)]; rfl, hB'.frozen _⟩
    · have hS : Blk ((W.alloc (.cells #[y] e)).setCells g (0 + n * 1) [y]) g (cur.setIfInBounds n y) e := by
        have := hB'.set n y
        rw [show 0 + n * 1 = n by omega]
        exact this
      refine h g cap _ ⟨by simp [hxl], .inr ⟨g, cap, _, rfl, hb, hS, hroom, h2, by simpa using h3, ?_⟩⟩ (.inl ⟨rfl, ?_⟩)
      · rw [Array.toList_setIfInBounds, show (n + 1) * 1 = n + 1 by omega, List.take_succ_eq_append_getElem (by simp; omega)]
        rw [show n * 1 = n by omega] at h4
        congr 1
        · rw [List.take_set_of_le (Nat.le_refl _)]; exact h4
        · simp
      · refine World.grownBy.trans (World.grownBy_alloc W (.cells #[y] e) (some g)) ?_
        rw [show 0 + n * 1 = n by omega]
        exact ⟨rfl, rfl, rfl, by simp [World.setCells], fun k _ hk => Below.heap_setCell _ ⟨g, n, none⟩ _ k (fun e => hk (by rw [e]))⟩
end
/-- cells that are read, in a block of which P holds -/
def Rp (P : Nat → Prop) (w : World) (A : Option Addr) (vs : List Value) : Prop := vs = [] ∨ ∃ b o, A = some ⟨b, o, none⟩ ∧ P b ∧ ∀ i, i < vs.length → w.cell? ⟨b, o + i, none⟩ = vs[i]?
section
variable {P P2 S : Nat → Prop} {w w' : World} {A : Option Addr} {vs : List Value}
theorem Rp.rd (h : Rp P w A vs) : Rd w A vs := by
  rcases h with h | ⟨b, o, h1, _, h2⟩
  · exact .inl h
  · exact .inr ⟨b, o, h1, h2⟩
theorem Rp.mono (h : Rp P w A vs) (hp : ∀ b, b < w.heap.size → P b → P2 b) : Rp P2 w A vs := by
  rcases h with h | ⟨b, o, h1, h3, h2⟩
  · exact .inl h
  · by_cases h0 : vs = []
    · exact .inl h0
    · have hpos : 0 < vs.length := List.length_pos_iff.2 h0
      have h4 := h2 0 hpos
      rw [List.getElem?_eq_getElem hpos] at h4
      exact .inr ⟨b, o, h1, hp b (World.block_lt_of_cell? w _ h4) h3, h2⟩
theorem Rp.kp (h : Rp P w A vs) (hk : Kp S w w') (hs : ∀ b, b < w.heap.size → P b → ¬ S b) : Rp P w' A vs := by
  rcases h with h | ⟨b, o, h1, h3, h2⟩
  · exact .inl h
  · refine .inr ⟨b, o, h1, h3, fun i hi => ?_⟩
    have h4 := h2 i hi
    rw [List.getElem?_eq_getElem hi] at h4
    have hlt : b < w.heap.size := World.block_lt_of_cell? w _ h4
    rw [World.cell?_of_block (w := w) (hk.block b hlt (hs b hlt h3))]
    exact h2 i hi
end
theorem own_rp {w : World} {base : Nat} {e : TypeId} {size n c : Nat} {A : Option Addr} {xs : List Value} (h : w.ownsRow base e size (.slice A n c) n xs) (P : Nat → Prop) (hp : ∀ b, (Value.slice A n c).ownBlock = some b → P b) : Rp P w A xs := by
  rcases own_rdA h with h0 | ⟨b, o, h1, h2⟩
  · exact .inl h0
  · exact .inr ⟨b, o, h1, hp b (by rw [h1]; rfl), h2⟩
end Go.Proofs.Ytcambbnmeiolgaa
namespace Go.Proofs.Ytcambbnmeiolgaa
open Go.RowKit
/-! The law's World: its cell, its two lists; the marks -/
abbrev WC (p0 p1 r0 r1 lv mv : Value) : Array Value := #[p0, p1, r0, r1, lv, mv]
def mk1 (N n : Nat) : List Int := (List.range n).map fun (i : Nat) => (sgn N i : Int)
def mk2 (N n j : Nat) : List Int := mk1 N n ++ (List.range j).map fun (i : Nat) => 128 + (sgn N i : Int)
theorem mk1_length (N n : Nat) : (mk1 N n).length = n := by simp [mk1]
theorem mk2_length (N n j : Nat) : (mk2 N n j).length = n + j := by simp [mk2, mk1_length]
theorem mk1_succ (N i : Nat) : mk1 N (i + 1) = mk1 N i ++ [(sgn N i : Int)] := by simp [mk1, List.range_succ]
theorem mk2_succ (N n j : Nat) : mk2 N n (j + 1) = mk2 N n j ++ [128 + (sgn N j : Int)] := by simp [mk2, List.range_succ]
theorem mk2_zero (N n : Nat) : mk2 N n 0 = mk1 N n := by simp [mk2]
/-- what keep may change -/
def Kch (q : Nat) (lv mv : Value) (ub : Option Nat) : Nat → Prop := fun k => k = q ∨ lv.ownBlock = some k ∨ mv.ownBlock = some k ∨ ub = some k
structure Kst (w : World) (q : Nat) (p0 p1 r0 r1 lv0 mv0 : Value) (ub : Option Nat) (W : World) (lv mv : Value) (nl nm : Nat) (vl vm : List Value) : Prop where
  bk : Blk W q (WC p0 p1 r0 r1 lv mv) 32
  rl : W.ownsRow 0 34 1 lv nl vl
  rm : W.ownsRow 0 34 1 mv nm vm
  ol : lv.ownBlock = lv0.ownBlock ∨ ∀ k, lv.ownBlock = some k → w.heap.size ≤ k
  om : mv.ownBlock = mv0.ownBlock ∨ ∀ k, mv.ownBlock = some k → w.heap.size ≤ k
  ap : ∀ k, lv.ownBlock = some k → mv.ownBlock ≠ some k
  kp : Kp (Kch q lv0 mv0 ub) w W
section
variable {w W W' : World} {q : Nat} {p0 p1 r0 r1 lv0 mv0 lv mv : Value} {ub : Option Nat} {nl nm : Nat} {vl vm : List Value}
theorem Kst.sub (h : Kst w q p0 p1 r0 r1 lv0 mv0 ub W lv mv nl nm vl vm) {S : Nat → Prop} (hk : Kp S W W') (hS : ∀ k, k < w.heap.size → S k → k = q ∨ lv.ownBlock = some k ∨ mv.ownBlock = some k ∨ ub = some k) : Kp (Kch q lv0 mv0 ub) w W' := by
  refine h.kp.step hk (fun k hl hs => ?_)
  rcases hS k hl hs with e | e | e | e
  · exact .inl e
  · rcases h.ol with o | o
    · exact .inr (.inl (o ▸ e))
    · have := o k e; omega
  · rcases h.om with o | o
    · exact .inr (.inr (.inl (o ▸ e)))
    · have := o k e; omega
  · exact .inr (.inr (.inr e))
theorem Kst.below (h : Kst w q p0 p1 r0 r1 lv0 mv0 ub W lv mv nl nm vl vm) (hb : Below W.heap.size W W') : Kst w q p0 p1 r0 r1 lv0 mv0 ub W' lv mv nl nm vl vm :=
  ⟨h.bk.below hb, own_below h.rl hb, own_below h.rm hb, h.ol, h.om, h.ap, h.kp.below hb⟩
/-- bytes are written -/
theorem Kst.bytes (h : Kst w q p0 p1 r0 r1 lv0 mv0 ub W lv mv nl nm vl vm) {base n : Nat} {v : Value} {xs : List Value} (ho : W.ownsRow base 5 1 v n xs) {r : Option Nat} (hr : ∀ k, r = some k → v.ownBlock = some k) (hg : W.grownBy W' r) (hu : ∀ k, v.ownBlock = some k → ub = some k ∨ w.heap.size ≤ k) : Kst w q p0 p1 r0 r1 lv0 mv0 ub W' lv mv nl nm vl vm := by
  have hne := h.bk.not_row (by decide) ho
  have e1 := own_type_ne h.rl ho (by decide)
  have e2 := own_type_ne h.rm ho (by decide)
  have hk := Kp.of_grown hg
  have row : ∀ {base : Nat} {v2 : Value} {n : Nat} {xs : List Value}, W.ownsRow base 34 1 v2 n xs → W'.ownsRow base 34 1 v2 n xs := fun h2 => by
    refine ownKp h2 hk (fun k hk2 hk3 => ?_)
    rcases own_type_ne h2 ho (by decide) with e | e
    · rw [e] at hk2; cases hk2
    · exact e (hk2.trans (hr k hk3).symm)
  refine ⟨h.bk.kp hk (fun hk3 => hne (hr q hk3).symm), row h.rl, row h.rm, h.ol, h.om, h.ap, h.sub hk (fun k hl hs => ?_)⟩
  rcases hu k (hr k hs) with e | e
  · exact .inr (.inr (.inr e))
  · omega
/-- one more is laid behind the first list -/
theorem Kst.pushL {g cap : Nat} {x : Value} {w1 : World} (h : Kst w q p0 p1 r0 r1 lv0 mv0 ub W lv mv nl nm vl vm) (os : w1.ownsRow 0 34 1 (.slice (some ⟨g, 0, none⟩) (nl + 1) cap) (nl + 1) (vl ++ [x])) (hg : W.grownBy w1 lv.ownBlock) (hc : lv.ownBlock = some g ∨ W.heap.size ≤ g) :
    Kst w q p0 p1 r0 r1 lv0 mv0 ub (w1.setCell ⟨q, 4, none⟩ (.slice (some ⟨g, 0, none⟩) (nl + 1) cap)) (.slice (some ⟨g, 0, none⟩) (nl + 1) cap) mv (nl + 1) nm (vl ++ [x]) vm ∧ Kp (fun k => k = q ∨ lv.ownBlock = some k) W (w1.setCell ⟨q, 4, none⟩ (.slice (some ⟨g, 0, none⟩) (nl + 1) cap)) := by
  have hne := h.bk.not_row (by decide) h.rl
  have hk0 : Kp (fun k => lv.ownBlock = some k) W w1 := Kp.of_grown hg
  have k4 : Blk w1 q (WC p0 p1 r0 r1 lv mv) 32 := h.bk.kp hk0 (fun e => hne e.symm)
  have hk : Kp (fun k => k = q ∨ lv.ownBlock = some k) W (w1.setCell ⟨q, 4, none⟩ (.slice (some ⟨g, 0, none⟩) (nl + 1) cap)) := (hk0.mono (fun k _ e => .inr e)).set q 4 _ (fun _ => .inl rfl)
  have hz := h.kp.size
  have hgs : ∀ k, (Value.slice (some ⟨g, 0, none⟩) (nl + 1) cap).ownBlock = some k → g = k := fun k hk => by simpa [Value.ownBlock] using hk
  refine ⟨⟨k4.set 4 _, own_set_other os q 4 _ (k4.not_row (by decide) os), ownKp h.rm hk (fun k hk2 => ?_), ?_, h.om, ?_, h.sub hk (fun k _ hs => hs.elim .inl (fun e => .inr (.inl e)))⟩, hk⟩
  · rintro (e | e)
    · exact h.bk.not_row (by decide) h.rm (e ▸ hk2.symm)
    · exact h.ap k e hk2
  · rcases hc with e | e
    · rcases h.ol with o | o
      · exact .inl (by rw [← o, e]; rfl)
      · exact .inr (fun k hk => hgs k hk ▸ o g e)
    · exact .inr (fun k hk => by have := hgs k hk; omega)
  · intro k hk
    obtain rfl := hgs k hk
    rcases hc with e | e
    · exact h.ap g e
    · intro hm
      have := (own_lt h.rm g hm).2
      omega
/-- and behind the second one -/
theorem Kst.pushM {g cap : Nat} {x : Value} {w1 : World} (h : Kst w q p0 p1 r0 r1 lv0 mv0 ub W lv mv nl nm vl vm) (os : w1.ownsRow 0 34 1 (.slice (some ⟨g, 0, none⟩) (nm + 1) cap) (nm + 1) (vm ++ [x])) (hg : W.grownBy w1 mv.ownBlock) (hc : mv.ownBlock = some g ∨ W.heap.size ≤ g) :
    Kst w q p0 p1 r0 r1 lv0 mv0 ub (w1.setCell ⟨q, 5, none⟩ (.slice (some ⟨g, 0, none⟩) (nm + 1) cap)) lv (.slice (some ⟨g, 0, none⟩) (nm + 1) cap) nl (nm + 1) vl (vm ++ [x]) ∧ Kp (fun k => k = q ∨ mv.ownBlock = some k) W (w1.setCell ⟨q, 5, none⟩ (.slice (some ⟨g, 0, none⟩) (nm + 1) cap)) := by
  have hne := h.bk.not_row (by decide) h.rm
  have hk0 : Kp (fun k => mv.ownBlock = some k) W w1 := Kp.of_grown hg
  have k4 : Blk w1 q (WC p0 p1 r0 r1 lv mv) 32 := h.bk.kp hk0 (fun e => hne e.symm)
  have hk : Kp (fun k => k = q ∨ mv.ownBlock = some k) W (w1.setCell ⟨q, 5, none⟩ (.slice (some ⟨g, 0, none⟩) (nm + 1) cap)) := (hk0.mono (fun k _ e => .inr e)).set q 5 _ (fun _ => .inl rfl)
  have hz := h.kp.size
  have hgs : ∀ k, (Value.slice (some ⟨g, 0, none⟩) (nm + 1) cap).ownBlock = some k → g = k := fun k hk => by simpa [Value.ownBlock] using hk
  refine ⟨⟨k4.set 5 _, ownKp h.rl hk (fun k hk2 => ?_), own_set_other os q 5 _ (k4.not_row (by decide) os), h.ol, ?_, ?_, h.sub hk (fun k _ hs => hs.elim .inl (fun e => .inr (.inr (.inl e))))⟩, hk⟩
  · rintro (e | e)
    · exact h.bk.not_row (by decide) h.rl (e ▸ hk2.symm)
    · exact h.ap k hk2 e
  · rcases hc with e | e
    · rcases h.om with o | o
      · exact .inl (by rw [← o, e]; rfl)
      · exact .inr (fun k hk => hgs k hk ▸ o g e)
    · exact .inr (fun k hk => by have := hgs k hk; omega)
  · intro k hk hm
    obtain rfl := hgs k hm
    rcases hc with e | e
    · exact h.ap g hk e
    · have := (own_lt h.rl g hk).2
      omega
theorem Kst.cellL {w1 : World} (h : Kst w q p0 p1 r0 r1 lv0 mv0 ub W lv mv nl nm vl vm) (hg : W.grownBy w1 lv.ownBlock) : Blk w1 q (WC p0 p1 r0 r1 lv mv) 32 := h.bk.kept hg (h.bk.not_row (by decide) h.rl)
theorem Kst.cellM {w1 : World} (h : Kst w q p0 p1 r0 r1 lv0 mv0 ub W lv mv nl nm vl vm) (hg : W.grownBy w1 mv.ownBlock) : Blk w1 q (WC p0 p1 r0 r1 lv mv) 32 := h.bk.kept hg (h.bk.not_row (by decide) h.rm)
/-- a row of bytes stays, where a list grows -/
theorem Kst.row (h : Kst w q p0 p1 r0 r1 lv0 mv0 ub W lv mv nl nm vl vm) {base n : Nat} {v : Value} {xs : List Value} (ho : W.ownsRow base 5 1 v n xs) (hk : Kp (fun k => k = q ∨ lv.ownBlock = some k) W W' ∨ Kp (fun k => k = q ∨ mv.ownBlock = some k) W W') : W'.ownsRow base 5 1 v n xs := by
  have hne := h.bk.not_row (by decide) ho
  rcases hk with hk | hk
  · refine ownKp ho hk (fun k hk2 => ?_)
    rintro (e | e)
    · exact hne (e ▸ hk2.symm)
    · rcases own_type_ne h.rl ho (by decide) with e2 | e2
      · rw [e2] at e; cases e
      · exact e2 (e.trans hk2.symm)
  · refine ownKp ho hk (fun k hk2 => ?_)
    rintro (e | e)
    · exact hne (e ▸ hk2.symm)
    · rcases own_type_ne h.rm ho (by decide) with e2 | e2
      · rw [e2] at e; cases e
      · exact e2 (e.trans hk2.symm)
end
/-- what lies, while the marks are laid behind -/
structure Km (w : World) (q : Nat) (p0 p1 r0 r1 lv0 mv0 : Value) (U : Option Addr) (un uc N : Nat) (W : World) (lv mv : Value) (n : Nat) (vl vm : List Value) (bv m1 y1 : Value) (nb nm : Nat) (lb lm : List Int) : Prop where
  st : Kst w q p0 p1 r0 r1 lv0 mv0 (Value.slice U un uc).ownBlock W lv mv n n vl vm
  ob : W.ownsRow 0 5 1 bv nb (B8 lb)
  om : W.ownsRow w.heap.size 5 1 m1 nm (B8 lm)
  oy : W.ownsRow w.heap.size 5 1 y1 un (B8 (mk1 N un))
  ru : Rd W U (B8 (mk1 N un))
  hu : U = none ∨ ∃ u, U = some ⟨u, 0, none⟩ ∧ u < w.heap.size
  bu : ∀ k, bv.ownBlock = some k → (Value.slice U un uc).ownBlock = some k ∨ w.heap.size ≤ k
  bm : ∀ k, bv.ownBlock = some k → m1.ownBlock ≠ some k
  yb : ∀ k, bv.ownBlock = some k → y1.ownBlock ≠ some k
  my : ∀ k, m1.ownBlock = some k → y1.ownBlock ≠ some k
section
variable {w W w3 : World} {q : Nat} {p0 p1 r0 r1 lv0 mv0 lv mv bv m1 y1 : Value} {U : Option Addr} {un uc N n nb nm : Nat} {vl vm : List Value} {lb lm : List Int}
/-- b grows -/
theorem Km.pushB {g cap : Nat} {r : List Int} (h : Km w q p0 p1 r0 r1 lv0 mv0 U un uc N W lv mv n vl vm bv m1 y1 nb nm lb lm) (os : w3.ownsRow 0 5 1 (.slice (some ⟨g, 0, none⟩) (nb + 1) cap) (nb + 1) (B8 (mk1 N un ++ r))) (hc : (bv.ownBlock = some g ∧ W.grownBy w3 (some g)) ∨ (W.heap.size ≤ g ∧ W.grownBy w3 none)) :
    Km w q p0 p1 r0 r1 lv0 mv0 U un uc N w3 lv mv n vl vm (.slice (some ⟨g, 0, none⟩) (nb + 1) cap) m1 y1 (nb + 1) nm (mk1 N un ++ r) lm := by
  have hgs : ∀ k, (Value.slice (some ⟨g, 0, none⟩) (nb + 1) cap).ownBlock = some k → g = k := fun k hk => by simpa [Value.ownBlock] using hk
  have hz := h.st.kp.size
  rcases hc with ⟨e, hg⟩ | ⟨e, hg⟩
  · refine ⟨h.st.bytes h.ob (r := some g) (fun k hk => by injection hk with hk; subst hk; exact e) hg h.bu, os, h.om.kept hg (.inr (h.bm g e)), h.oy.kept hg (.inr (h.yb g e)), ?_, h.hu, fun k hk => by obtain rfl := hgs k hk; exact h.bu g e, fun k hk => by obtain rfl := hgs k hk; exact h.bm g e, fun k hk => by obtain rfl := hgs k hk; exact h.yb g e, h.my⟩
    rcases h.hu with hu | ⟨u, hu, _⟩
    · subst hu
      rcases h.ru with h0 | ⟨_, _, h0, _⟩
      · exact .inl h0
      · cases h0
    · subst hu
      by_cases hug : u = g
      · subst hug
        have := own_rdv os
        rw [show B8 (mk1 N un ++ r) = B8 (mk1 N un) ++ B8 r by simp [B8]] at this
        rcases this with h0 | ⟨b, o, h1, hcl⟩
        · exact .inl (List.append_eq_nil_iff.1 h0).1
        · refine .inr ⟨b, o, h1, fun i hi => ?_⟩
          rw [hcl i (by simp; omega), List.getElem?_append_left hi]
      · rcases h.ru with h0 | ⟨b, o, h1, hcl⟩
        · exact .inl h0
        · injection h1 with h1
          injection h1 with e1 e2
          subst e1 e2
          refine .inr ⟨u, 0, rfl, fun i hi => ?_⟩
          have h5 := hcl i hi
          rw [List.getElem?_eq_getElem hi] at h5 ⊢
          exact hg.cell h5 (fun he => hug (by injection he))
  · have hb : Below W.heap.size W w3 := ⟨hg.os, hg.tape, hg.output, hg.size, fun k hk => hg.block k hk (by simp)⟩
    refine ⟨h.st.below hb, os, own_below h.om hb, own_below h.oy hb, h.ru.below hb, h.hu, fun k hk => by obtain rfl := hgs k hk; exact .inr (by omega), fun k hk hk2 => ?_, fun k hk hk2 => ?_, h.my⟩
    · obtain rfl := hgs k hk
      have := (own_lt h.om g hk2).2
      omega
    · obtain rfl := hgs k hk
      have := (own_lt h.oy g hk2).2
      omega
/-- m grows -/
theorem Km.pushC {g cap : Nat} {l : List Int} (h : Km w q p0 p1 r0 r1 lv0 mv0 U un uc N W lv mv n vl vm bv m1 y1 nb nm lb lm) (os : w3.ownsRow w.heap.size 5 1 (.slice (some ⟨g, 0, none⟩) (nm + 1) cap) (nm + 1) (B8 l)) (hc : (m1.ownBlock = some g ∧ W.grownBy w3 (some g)) ∨ (W.heap.size ≤ g ∧ W.grownBy w3 none)) :
    Km w q p0 p1 r0 r1 lv0 mv0 U un uc N w3 lv mv n vl vm bv (.slice (some ⟨g, 0, none⟩) (nm + 1) cap) y1 nb (nm + 1) lb l := by
  have hgs : ∀ k, (Value.slice (some ⟨g, 0, none⟩) (nm + 1) cap).ownBlock = some k → g = k := fun k hk => by simpa [Value.ownBlock] using hk
  have hz := h.st.kp.size
  rcases hc with ⟨e, hg⟩ | ⟨e, hg⟩
  · have hgl := (own_lt h.om g e).1
    refine ⟨h.st.bytes h.om (r := some g) (fun k hk => by injection hk with hk; subst hk; exact e) hg (fun k hk => .inr (own_lt h.om k hk).1), h.ob.kept hg (.inr (fun he => h.bm g he e)), os, h.oy.kept hg (.inr (h.my g e)), ?_, h.hu, h.bu, fun k hk hk2 => by obtain rfl := hgs k hk2; exact h.bm g hk e, h.yb, fun k hk => by obtain rfl := hgs k hk; exact h.my g e⟩
    rcases h.ru with h0 | ⟨b, o, h1, hcl⟩
    · exact .inl h0
    · rcases h.hu with hu | ⟨u, hu, hul⟩
      · rw [hu] at h1; cases h1
      · rw [hu] at h1
        injection h1 with h1
        injection h1 with e1 e2
        subst e1 e2
        refine .inr ⟨u, 0, hu, fun i hi => ?_⟩
        have h5 := hcl i hi
        rw [List.getElem?_eq_getElem hi] at h5 ⊢
        exact hg.cell h5 (fun he => by injection he with he; have he2 : u = g := he; omega)
  · have hb : Below W.heap.size W w3 := ⟨hg.os, hg.tape, hg.output, hg.size, fun k hk => hg.block k hk (by simp)⟩
    refine ⟨h.st.below hb, own_below h.ob hb, os, own_below h.oy hb, h.ru.below hb, h.hu, h.bu, fun k hk hk2 => ?_, h.yb, fun k hk hk2 => ?_⟩
    · obtain rfl := hgs k hk2
      have := (own_lt h.ob g hk).2
      omega
    · obtain rfl := hgs k hk
      have := (own_lt h.oy g hk2).2
      omega
end
/-- a list that was handed out, and its copy -/
def MkP (P : Nat → Prop) (w : World) (x y : Value) (l : List Int) : Prop := ∃ A c A' c', x = .slice A l.length c ∧ y = .slice A' l.length c' ∧ Rp P w A (B8 l) ∧ Rp P w A' (B8 l)
theorem MkP.mono {P P2 : Nat → Prop} {w : World} {x y : Value} {l : List Int} (h : MkP P w x y l) (hp : ∀ b, b < w.heap.size → P b → P2 b) : MkP P2 w x y l := by
  obtain ⟨A, c, A', c', h1, h2, h3, h4⟩ := h
  exact ⟨A, c, A', c', h1, h2, h3.mono hp, h4.mono hp⟩
theorem MkP.kp {P S : Nat → Prop} {w w' : World} {x y : Value} {l : List Int} (h : MkP P w x y l) (hk : Kp S w w') (hs : ∀ b, b < w.heap.size → P b → ¬ S b) : MkP P w' x y l := by
  obtain ⟨A, c, A', c', h1, h2, h3, h4⟩ := h
  exact ⟨A, c, A', c', h1, h2, h3.kp hk hs, h4.kp hk hs⟩
end Go.Proofs.Ytcambbnmeiolgaa
namespace Go.Proofs.Ytcambbnmeiolgaa
open Go.RowKit
/-! keep -/
theorem B8_set (l : List Int) (i : Nat) (x : Int) : B8 (l.set i x) = (B8 l).set i (.int .u8 x) := by simp [B8, List.map_set]
theorem take_set_succ {α : Type} (l : List α) (i : Nat) (x : α) (h : i < l.length) : (l.set i x).take (i + 1) = l.take i ++ [x] := by
  rw [List.take_succ_eq_append_getElem (by simpa using h)]
  congr 1
  · rw [List.take_set_of_le (Nat.le_refl _)]
  · simp
theorem Rd.pre {w : World} {A : Option Addr} {xs ys : List Value} (h : Rd w A (xs ++ ys)) : Rd w A xs := by
  rcases h with h | ⟨b, o, h1, hc⟩
  · exact .inl (List.append_eq_nil_iff.1 h).1
  · refine .inr ⟨b, o, h1, fun i hi => ?_⟩
    rw [hc i (by simp; omega), List.getElem?_append_left hi]
/-- what keep leaves -/
def KepOut (w : World) (q : Nat) (p0 p1 r0 r1 lv mv bv : Value) (N un : Nat) (vl vm : List Value) (w' : World) : Prop :=
  ∃ lv' mv' x2 y1 y2, Kst w q p0 p1 r0 r1 lv mv bv.ownBlock w' lv' mv' (N + 2) (N + 2) (vl ++ [bv, x2]) (vm ++ [y1, y2]) ∧ MkP (fun k => (bv.ownBlock = some k ∨ w.heap.size ≤ k) ∧ lv'.ownBlock ≠ some k ∧ mv'.ownBlock ≠ some k) w' bv y1 (mk1 N un) ∧ MkP (fun k => (bv.ownBlock = some k ∨ w.heap.size ≤ k) ∧ lv'.ownBlock ≠ some k ∧ mv'.ownBlock ≠ some k) w' x2 y2 (mk2 N un 64)
theorem row_ne {W : World} {b b' n n' : Nat} {v v' : Value} {xs xs' : List Value} (hl : W.ownsRow b 34 1 v n xs) (ho : W.ownsRow b' 5 1 v' n' xs') : ∀ k, v'.ownBlock = some k → v.ownBlock ≠ some k := fun k hk e => by
  rcases own_type_ne hl ho (by decide) with h | h
  · rw [h] at e; cases e
  · exact h (e.trans hk.symm)
theorem sgn_lt (N i : Nat) : sgn N i < 128 := Nat.mod_lt _ (by omega)
set_option maxRecDepth 100000 in
set_option maxHeartbeats 8000000 in
theorem keep_any (w : World) (q : Nat) (p0 p1 r0 r1 lv mv : Value) (U : Option Addr) (N un uc : Nat) (vl vm : List Value) (o : List Int)
    (hq : Blk w q (WC p0 p1 r0 r1 lv mv) 32) (hl : w.ownsRow 0 34 1 lv N vl) (hm : w.ownsRow 0 34 1 mv N vm) (hne : ∀ k, lv.ownBlock = some k → mv.ownBlock ≠ some k) (hb : w.ownsRow 0 5 1 (.slice U un uc) un (B8 o)) (hun : un ≤ 70368744177664) (hN : N ≤ 1099511627776) :
    Calls Try.prog 39 #[.pointer (some ⟨q, 0, none⟩), .slice U un uc] w fun en w' => en = .returned (.tuple #[]) ∧ KepOut w q p0 p1 r0 r1 lv mv (.slice U un uc) N un vl vm w' := by
  have a4 : (⟨q, 0, none⟩ : Addr).add 4 = ⟨q, 4, none⟩ := by simpa using addr_add q 0 4
  have a5 : (⟨q, 0, none⟩ : Addr).add 5 = ⟨q, 5, none⟩ := by simpa using addr_add q 0 5
  obtain ⟨lA, lc, rfl, _, _⟩ := own_rd hl
  obtain ⟨mA, mc, rfl, _, _⟩ := own_rd hm
  have hol : o.length = un := by have := hb.1; rw [B8_length] at this; omega
  have x4 : w.cell? ⟨q, 4, none⟩ = some (.slice lA N lc) := hq.cell _
  have S0 : Kst w q p0 p1 r0 r1 (.slice lA N lc) (.slice mA N mc) (Value.slice U un uc).ownBlock w (.slice lA N lc) (.slice mA N mc) N N vl vm := ⟨hq, hl, hm, .inl rfl, .inl rfl, hne, Kp.refl _ _⟩
  have hub := fun k hk => (own_lt hb k hk).2
  have UB := Lib.hid hub
  have NE := Lib.hid (show ∀ k, (Value.slice U un uc).ownBlock = some k → k ≠ q ∧ (Value.slice lA N lc).ownBlock ≠ some k ∧ (Value.slice mA N mc).ownBlock ≠ some k from fun k hk => by
    refine ⟨fun e => hq.not_row (by decide) hb (by rw [hk, e]), fun e => ?_, fun e => ?_⟩
    · rcases own_type_ne hl hb (by decide) with h | h
      · rw [h] at e; cases e
      · exact h (e.trans hk.symm)
    · rcases own_type_ne hm hb (by decide) with h | h
      · rw [h] at e; cases e
      · exact h (e.trans hk.symm))
  clear hq hl hm hne hub
  go_enter Try.func39, Try.ntmps39
  go_wp2
  clear x4
  go_loopw [5] (fun iv wr => ∃ (i : Nat) (l : List Int), i ≤ un ∧ iv = .int .i64 (i : Int) ∧ l.length = un ∧ l.take i = mk1 N i ∧ Kst w q p0 p1 r0 r1 (.slice lA N lc) (.slice mA N mc) (Value.slice U un uc).ownBlock wr (.slice lA N lc) (.slice mA N mc) N N vl vm ∧ wr.ownsRow 0 5 1 (.slice U un uc) un (B8 l)) (fun iv _ => un - (intOf iv).toNat)
  case atStart => exact ⟨0, o, by omega, rfl, hol, by simp [mk1], S0, hb⟩
  case round =>
    clear S0 hb
    obtain ⟨i, l, hi, rfl, hll, htk, S1, hb⟩ := hrel
    have TK := Lib.hid htk
    have HLL := Lib.hid hll
    clear htk
    by_cases hlt : i < un
    · have g1 : (i : Int) < (un : Int) := by omega
      obtain ⟨g, hU⟩ : ∃ g, U = some ⟨g, 0, none⟩ := by
        rcases hb.2 with ⟨_, h0⟩ | ⟨g, cap, cur, he, _⟩
        · omega
        · injection he with he _ _
          exact ⟨g, he⟩
      subst hU
      have y0 : wr.cell? ⟨g, i, none⟩ = some (.int .u8 (l[i]'(by omega))) := by
        obtain ⟨g2, o2, he, hy⟩ := (own_rdv hb).b8 i (by omega)
        injection he with he
        injection he with e1 e2
        subst e1 e2
        rwa [Nat.zero_add] at hy
      have z0 := World.ownsRow.frozenAt hb i
      have hst := World.ownsRow.stored hb i (.int .u8 (sgn N i : Int))
      have ea : (⟨g, 0, none⟩ : Addr).add i = ⟨g, i, none⟩ := by simpa using addr_add g 0 i
      have NX := Lib.hid (show (l.set i (sgn N i : Int)).take (i + 1) = mk1 N (i + 1) by rw [take_set_succ _ _ _ (by omega), TK.out, mk1_succ])
      have S2 := S1.bytes hb (r := some g) (fun k hk => by injection hk with hk; subst hk; rfl) hst.2 (fun k hk => .inl hk)
      have B2 := Lib.hid (show (wr.setCell ⟨g, i, none⟩ (.int .u8 (sgn N i : Int))).ownsRow 0 5 1 (.slice (some ⟨g, 0, none⟩) un uc) un (B8 (l.set i (sgn N i : Int))) by rw [B8_set]; exact hst.1)
      have SS2 := Lib.hid S2
      clear hst S1 hb S2
      go_wp2_with fail
      refine (sign_any N i (by omega) (by omega) wr).mono ?_
      rintro e w1 ⟨rfl, rfl⟩
      generalize (sgn N i) = sv at *
      go_wp2
      go_roundw
      case rel => exact ⟨i + 1, l.set i (sv : Int), by omega, by go_num, by simpa using HLL.out, NX.out, SS2.out, B2.out⟩
      case measure => simp [intOf]; omega
    · obtain rfl : i = un := by omega
      have hl1 : l = mk1 N i := by have := TK.out; rwa [List.take_of_length_le (by omega)] at this
      subst hl1
      have RU := Lib.hid (own_rdv hb)
      have k4 := S1.bk
      have x4 : wr.cell? ⟨q, 4, none⟩ = some (.slice lA N lc) := S1.bk.cell _
      have SS1 := Lib.hid S1
      have HB1 := Lib.hid hb
      have oL := S1.rl
      clear S1 hb k4 HLL TK
      go_wp2_with (at_builtin; refine app (w0 := wr) 0 rfl _ _ 30 34 (.slice none 0 0) 1 24 rfl Try.underlying30 info34 rfl (by decide) (by decide) (.slice lA N lc) N vl #[.slice U i uc] rfl rfl rfl (by simp [Value.oneCell']) oL (Below.refl 0 wr) (by omega) (by omega) ?_; intro g1 cap1 w3 os3 hb3 hg3 hat3; have k5 := (SS1.out.cellL hg3).frozen 4; have k6 : w3.cell? ⟨q, 4, none⟩ = some (.slice lA N lc) := (SS1.out.cellL hg3).cell _)
      obtain ⟨S2, hk2⟩ := SS1.out.pushL os3 hg3 (hat3.elim (fun e => .inl e.symm) (fun e => .inr (by omega)))
      have o2 := SS1.out.row HB1.out (.inl hk2)
      clear k5 k6 os3 hb3 hg3 hat3 oL hk2 x4 RU
      generalize (w3.setCell ⟨q, 4, none⟩ (.slice (some ⟨g1, 0, none⟩) (N + 1) cap1)) = w4 at *
      generalize hL1 : Value.slice (some ⟨g1, 0, none⟩) (N + 1) cap1 = L1 at *
      clear hL1
      have y5 : w4.cell? ⟨q, 5, none⟩ = some (.slice mA N mc) := S2.bk.cell _
      have y5' : w4.drew.cell? ⟨q, 5, none⟩ = some (.slice mA N mc) := y5
      have SS2 := Lib.hid S2
      have O2 := Lib.hid o2
      clear S2 o2
      rename_i KK aK
      have key7 : ∀ (a : Act) (w7 : World) (M1 y1 : Value), (∃ us : Nat → Value, a = { tmps := #[.pointer (some ⟨q, 0, none⟩), .slice U i uc, us 2, us 3, .int .i64 (N : Int), us 5, us 6, us 7, us 8, us 9, us 10, us 11, us 12, us 13, us 14, us 15, us 16, us 17, us 18, us 19, us 20, us 21, us 22, us 23, us 24, us 25, us 26, us 27, us 28, us 29, us 30, us 31, us 32, us 33, us 34, us 35, us 36, us 37, us 38, us 39, us 40, us 41, us 42, us 43, us 44, us 45, us 46, us 47, us 48, us 49, us 50, us 51, us 52, us 53, us 54, us 55, us 56, us 57, us 58, us 59, us 60, us 61, us 62, us 63, us 64, us 65, us 66, us 67, us 68, us 69, us 70, us 71, us 72, us 73, us 74, us 75, us 76, us 77, us 78, us 79, us 80, us 81, us 82, us 83, us 84, us 85], defers := [] }) → Kst w q p0 p1 r0 r1 (.slice lA N lc) (.slice mA N mc) (Value.slice U i uc).ownBlock w7 L1 M1 (N + 1) (N + 1) (vl ++ [.slice U i uc]) (vm ++ [y1]) → w7.ownsRow 0 5 1 (.slice U i uc) i (B8 (mk1 N i)) → w7.ownsRow w.heap.size 5 1 y1 i (B8 (mk1 N i)) → KK a w7 := by
        rintro a w7 M1 y1 ⟨us, rfl⟩ S3 oU oY
        refine aK _ _ ?_
        clear y5 y5' aK
        have SS3 := Lib.hid S3
        have OU := Lib.hid oU
        have OY := Lib.hid oY
        clear S3 oU oY
        go_wp2_with fail
        refine (copyBytes_any U i uc (mk1 N i) (mk1_length N i) (by omega) _ (own_rdv OU.out)).mono ?_
        rintro e w8 ⟨m1, rfl, om, hb8⟩
        have UBK := Lib.hid (show ∀ k, (Value.slice U i uc).ownBlock = some k → k < w.heap.size from UB.out)
        have oU4 := own_below OU.out hb8
        have oY4 := own_below OY.out hb8
        have hzz := SS3.out.kp.size
        have om4 := own_base om hzz
        have KM : Km w q p0 p1 r0 r1 (.slice lA N lc) (.slice mA N mc) U i uc N w8 L1 M1 (N + 1) (vl ++ [.slice U i uc]) (vm ++ [y1]) (.slice U i uc) m1 y1 i i (mk1 N i) (mk1 N i) :=
          ⟨SS3.out.below hb8, oU4, om4, oY4, own_rdv oU4, by
            rcases oU4.2 with ⟨he, _⟩ | ⟨g, _, _, he, _⟩
            · injection he with he _ _; exact .inl he
            · injection he with he _ _; exact .inr ⟨g, he, UBK.out g (by rw [he]; rfl)⟩, fun k hk => .inl hk, fun k hk he => by
            have h1 := (own_lt om4 k he).1
            have h2 := UBK.out k hk
            omega, fun k hk he => by
            have h1 := (own_lt OY.out k he).1
            have h2 := UBK.out k hk
            omega, fun k hk he => by
            have h1 := (own_lt om k hk).1
            have h2 := (own_lt OY.out k he).2
            omega⟩
        clear SS3 OU OY hb8 om oU4 oY4 om4
        go_wp2
        go_loopw [1, 6, 7] (fun bv mv2 iv wr => ∃ j : Nat, j ≤ 64 ∧ iv = .int .i64 (j : Int) ∧ Km w q p0 p1 r0 r1 (.slice lA N lc) (.slice mA N mc) U i uc N wr L1 M1 (N + 1) (vl ++ [.slice U i uc]) (vm ++ [y1]) bv mv2 y1 (i + j) (i + j) (mk2 N i j) (mk2 N i j)) (fun _ _ iv _ => 64 - (intOf iv).toNat)
        case atStart => exact ⟨0, by omega, rfl, by rw [mk2_zero]; exact KM⟩
        case round =>
          clear KM
          obtain ⟨j, hj, rfl, KM⟩ := hrel
          obtain ⟨bA, bc, rfl, _, _⟩ := own_rd KM.ob
          obtain ⟨mA2, mc2, rfl, _, _⟩ := own_rd KM.om
          have HK := Lib.hid KM
          by_cases hlt : j < 64
          · have g1 : (j : Int) < 64 := by omega
            have NX := Lib.hid (show B8 (mk2 N i j) ++ [.int .u8 (128 + (sgn N j : Int))] = B8 (mk2 N i (j + 1)) by rw [B8_snoc, mk2_succ])
            have hs := sgn_lt N j
            have hw : IntKind.u8.wrap (128 + (sgn N j : Int)) = 128 + (sgn N j : Int) := IntWalk.u8_in _ (by omega)
            have SG := Lib.hid (fun w' => sign_any N j (by omega) (by omega) w')
            have oB := KM.ob
            clear KM
            generalize sgn N j = sv at *
            go_wp2_with fail
            refine (SG.out wr).mono ?_
            rintro e w1 ⟨rfl, rfl⟩
            go_wp2_with (at_builtin; refine appK 0 rfl _ _ 34 5 (.int .u8 0) 1 rfl Try.underlying34 info5 rfl (by decide) (.slice bA (i + j) bc) (i + j) (B8 (mk2 N i j)) (.int .u8 (128 + (sv : Int))) rfl rfl rfl oB (Nat.zero_le _) (by omega) ?_; intro g3 cap3 w9 os9 hc9; rw [NX.out] at os9)
            have KM2 := HK.out.pushB os9 hc9
            clear os9 hc9 oB HK
            have HK2 := Lib.hid KM2
            have oM := KM2.om
            clear KM2
            refine (SG.out w9).mono ?_
            rintro e w1 ⟨rfl, rfl⟩
            go_wp2_with (at_builtin; refine appK w.heap.size rfl _ _ 34 5 (.int .u8 0) 1 rfl Try.underlying34 info5 rfl (by decide) (.slice mA2 (i + j) mc2) (i + j) (B8 (mk2 N i j)) (.int .u8 (128 + (sv : Int))) rfl rfl rfl oM HK2.out.st.kp.size (by omega) ?_; intro g4 cap4 w10 os10 hc10; rw [NX.out] at os10)
            have KM3 := Lib.hid (HK2.out.pushC os10 hc10)
            clear os10 hc10 oM HK2
            go_roundw
            case rel => exact ⟨j + 1, by omega, by go_num, KM3.out⟩
            case measure => simp [intOf]; omega
          · obtain rfl : j = 64 := by omega
            obtain ⟨lA2, lc2, rfl, _, _⟩ := own_rd KM.st.rl
            obtain ⟨mA3, mc3, rfl, _, _⟩ := own_rd KM.st.rm
            have x4 : wr.cell? ⟨q, 4, none⟩ = some (.slice lA2 (N + 1) lc2) := KM.st.bk.cell _
            have oL := KM.st.rl
            have VV := Lib.hid (show (vl ++ [Value.slice U i uc]) ++ [Value.slice bA (i + 64) bc] = vl ++ [Value.slice U i uc, Value.slice bA (i + 64) bc] by simp)
            have VM := Lib.hid (show (vm ++ [y1]) ++ [Value.slice mA2 (i + 64) mc2] = vm ++ [y1, Value.slice mA2 (i + 64) mc2] by simp)
            clear KM
            go_wp2_with (at_builtin; first | ((fail_if_success (have := k5)); refine app (w0 := wr) 0 rfl _ _ 30 34 (.slice none 0 0) 1 24 rfl Try.underlying30 info34 rfl (by decide) (by decide) (.slice lA2 (N + 1) lc2) (N + 1) (vl ++ [.slice U i uc]) #[.slice bA (i + 64) bc] rfl rfl rfl (by simp [Value.oneCell']) oL (Below.refl 0 wr) (by omega) (by omega) ?_; intro g5 cap5 w11 os11 hb11 hg11 hat11; have k5 := (HK.out.st.cellL hg11).frozen 4; have k6 : w11.cell? ⟨q, 4, none⟩ = some (.slice lA2 (N + 1) lc2) := (HK.out.st.cellL hg11).cell _; have k7 : (w11.setCell ⟨q, 4, none⟩ (.slice (some ⟨g5, 0, none⟩) (N + 1 + 1) cap5)).cell? ⟨q, 5, none⟩ = some (.slice mA3 (N + 1) mc3) := ((HK.out.st.cellL hg11).set 4 _).cell _) | (obtain ⟨S5, hk5⟩ := HK.out.st.pushL os11 hg11 (hat11.elim (fun e => .inl e.symm) (fun e => .inr (by omega))); refine app (w0 := w11.setCell ⟨q, 4, none⟩ (.slice (some ⟨g5, 0, none⟩) (N + 1 + 1) cap5)) 0 rfl (.tmp 80) (.tmp 82) 30 34 (.slice none 0 0) 1 24 rfl Try.underlying30 info34 rfl (by decide) (by decide) (.slice mA3 (N + 1) mc3) (N + 1) (vm ++ [y1]) #[.slice mA2 (i + 64) mc2] rfl (congrArg (fun k => Value.slice (some ⟨k, 0, none⟩) 1 1) (World.size_setCell w11 ⟨q, 4, none⟩ (.slice (some ⟨g5, 0, none⟩) (N + 1 + 1) cap5)).symm) rfl (by simp [Value.oneCell']) S5.rm (Below.refl 0 _) (by omega) (by omega) ?_; intro g6 cap6 w12 os12 hb12 hg12 hat12; have k8 := (S5.cellM hg12).frozen 5; have k9 : w12.cell? ⟨q, 5, none⟩ = some (.slice mA3 (N + 1) mc3) := (S5.cellM hg12).cell _))
            obtain ⟨S6, hk6⟩ := S5.pushM os12 hg12 (hat12.elim (fun e => .inl e.symm) (fun e => .inr (by omega)))
            have t1 := S5.row (HK.out.st.row HK.out.ob (.inl hk5)) (.inr hk6)
            have t2 := S5.row (HK.out.st.row HK.out.om (.inl hk5)) (.inr hk6)
            have t3 := S5.row (HK.out.st.row HK.out.oy (.inl hk5)) (.inr hk6)
            have OUT := Lib.hid (show KepOut w q p0 p1 r0 r1 (.slice lA N lc) (.slice mA N mc) (.slice U i uc) N i vl vm (w12.setCell ⟨q, 5, none⟩ (.slice (some ⟨g6, 0, none⟩) (N + 1 + 1) cap6)) from
              ⟨_, _, .slice bA (i + 64) bc, y1, .slice mA2 (i + 64) mc2, by rw [← VV.out, ← VM.out]; exact S6, by
                obtain ⟨yA, yc, rfl, _, _⟩ := own_rd t3
                refine ⟨U, uc, yA, yc, by rw [mk1_length], by rw [mk1_length], ?_, own_rp t3 _ (fun b hb => ⟨.inr (own_lt t3 b hb).1, row_ne S6.rl t3 b hb, row_ne S6.rm t3 b hb⟩)⟩
                have R0 : Rp (fun k => (Value.slice U i uc).ownBlock = some k) wr U (B8 (mk1 N i)) := by
                  rcases HK.out.ru with h0 | ⟨b, o, h1, h2⟩
                  · exact .inl h0
                  · exact .inr ⟨b, o, h1, by rw [h1]; rfl, h2⟩
                refine Rp.mono ((R0.kp hk5 (fun b _ hb => ?_)).kp hk6 (fun b _ hb => ?_)) (fun b _ hb => ⟨.inl hb, fun e => ?_, fun e => ?_⟩)
                · obtain ⟨n1, n2, n3⟩ := NE.out b hb
                  have nl := UB.out b hb
                  rintro (e | e)
                  · exact n1 e
                  · rcases HK.out.st.ol with ho | ho
                    · exact n2 (ho ▸ e)
                    · have := ho b e; omega
                · obtain ⟨n1, n2, n3⟩ := NE.out b hb
                  have nl := UB.out b hb
                  rintro (e | e)
                  · exact n1 e
                  · rcases HK.out.st.om with ho | ho
                    · exact n3 (ho ▸ e)
                    · have := ho b e; omega
                · obtain ⟨n1, n2, n3⟩ := NE.out b hb
                  have nl := UB.out b hb
                  rcases S6.ol with ho | ho
                  · exact n2 (ho ▸ e)
                  · have := ho b e; omega
                · obtain ⟨n1, n2, n3⟩ := NE.out b hb
                  have nl := UB.out b hb
                  rcases S6.om with ho | ho
                  · exact n3 (ho ▸ e)
                  · have := ho b e; omega, ⟨bA, bc, mA2, mc2, by rw [mk2_length], by rw [mk2_length], own_rp t1 _ (fun b hb => ⟨HK.out.bu b hb, row_ne S6.rl t1 b hb, row_ne S6.rm t1 b hb⟩), own_rp t2 _ (fun b hb => ⟨.inr (own_lt t2 b hb).1, row_ne S6.rl t2 b hb, row_ne S6.rm t2 b hb⟩)⟩⟩)
            clear k5 k6 k7 k8 k9 os11 hb11 hg11 hat11 os12 hb12 hg12 hat12 S5 S6 hk5 hk6 t1 t2 t3 x4 oL HK
            go_wp2
            refine bodyPost_end (results_none rfl _ _ _) rfl ?_
            exact ⟨rfl, OUT.out⟩
      clear aK
      go_region_law (first
        | ((fail_if_success (have := oy1)); (try go_simp); go_at_call 26; refine (copyBytes_any U i uc (mk1 N i) (mk1_length N i) (by omega) _ (Rd.below (own_rdv O2.out) (Below.drew (Below.refl _ _)))).mono ?_; rintro e w5 ⟨y1, rfl, oy1, hb5⟩; have s5 := SS2.out.below (bthen (Below.drew (Below.refl w4.heap.size w4)) hb5); obtain ⟨yA, yc, rfl, _, _⟩ := own_rd oy1; have z5 : w5.cell? ⟨q, 5, none⟩ = some (.slice mA N mc) := s5.bk.cell _; have z5' : (w5.alloc (.cells #[.slice yA i yc] 34)).cell? ⟨q, 5, none⟩ = some (.slice mA N mc) := (s5.bk.alloc _).cell _)
        | (refine appStep (w0 := w5.alloc (.cells #[.slice yA i yc] 34)) 0 rfl _ _ 30 34 (.slice none 0 0) 1 24 rfl Try.underlying30 info34 rfl (by decide) (by decide) (.slice mA N mc) N vm w5.heap.size #[.slice yA i yc] rfl rfl rfl (by simp [Value.oneCell']) (Blk.new w5 _ 34) (s5.rm.alloc _) (Below.refl _ _) (by omega) (by omega) ?_; intro g2 cap2 w6 os6 hb6 hg6 hat6; have s6 := s5.below (show Below w5.heap.size w5 (w5.alloc (.cells #[.slice yA i yc] 34)) from (Below.refl _ _).alloc (Nat.le_refl _) _); have k7 := (s6.cellM hg6).frozen 5; have k8 : w6.cell? ⟨q, 5, none⟩ = some (.slice mA N mc) := (s6.cellM hg6).cell _))
      all_goals
        obtain ⟨S3, hk3⟩ := s6.pushM os6 hg6 (hat6.elim (fun e => .inl e) (fun e => .inr (by rw [e]; simp)))
        have bA := (Below.refl w5.heap.size w5).alloc (Nat.le_refl _) (.cells #[.slice yA i yc] 34)
        have o3 := s6.row (own_below (own_below O2.out (bthen (Below.drew (Below.refl w4.heap.size w4)) hb5)) bA) (.inr hk3)
        have o4 := s6.row (own_below oy1 bA) (.inr hk3)
        replace o4 := own_base o4 (show w.heap.size ≤ _ from SS2.out.kp.size)
        clear k7 k8 os6 hg6 hat6 hb6 s6 hk3 bA z5 z5' s5 oy1 hb5
        go_wp2
        exact key7 _ _ _ _ (exists_frame rfl) S3 o3 o4
end Go.Proofs.Ytcambbnmeiolgaa
