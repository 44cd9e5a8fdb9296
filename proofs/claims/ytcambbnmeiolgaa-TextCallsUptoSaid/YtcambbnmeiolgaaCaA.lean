import Derived.Test.YtcambbnmeiolgaaNewP
import Derived.Test.YtcambbnmeiolgaaFix
import Derived.Test.YtcambbnmeiolgaaUtfP
import Derived.Test.YtcambbnmeiolgaaBegR
import Derived.BigQuiet
import Derived.Deep.QuietTactic
namespace Go.Proofs.Ytcambbnmeiolgaa
open Go.RowKit
def rgt1 (n : Int) (may : Bool) (x : Int) : Int := if (if x.tmod n < 0 then x.tmod n + n else x.tmod n) = 0 ∧ may = false then 1 else if x.tmod n < 0 then x.tmod n + n else x.tmod n
/-- right -/
def rgt (n : Int) (l : List Int) (may : Bool) : List Int := if 1 < n then l.map (rgt1 n may) else []
theorem tmod_lt {n : Int} (h : 1 < n) (x : Int) : -n < x.tmod n ∧ x.tmod n < n := by
  have h1 := Int.tmod_lt_of_pos x (show 0 < n by omega)
  have h2 := Int.lt_tmod_of_pos x (show 0 < n by omega)
  exact ⟨h2, h1⟩
theorem rgt1_ok {n : Int} (h : 1 < n) (may : Bool) (x : Int) : 0 ≤ rgt1 n may x ∧ rgt1 n may x < n ∧ (may = false → 1 ≤ rgt1 n may x) := by
  have := tmod_lt h x
  unfold rgt1
  cases may
  · refine ⟨?_, ?_, fun _ => ?_⟩ <;> (repeat' split) <;> simp_all <;> omega
  · refine ⟨?_, ?_, fun h => by cases h⟩ <;> (repeat' split) <;> simp_all <;> omega

set_option maxRecDepth 100000 in
set_option maxHeartbeats 2000000 in
/-- right -/
theorem right_any (A A' L : Option Addr) (n m ln c c' lc : Nat) (bs : List Int) (ps : List (Int × Int)) (l : List Int) (may : Bool) (w : World) (hv : Voc w A A' n m bs ps) (hwf : Wf bs ps) (hl : l.length = ln) (hx : Rd w L (I64 l)) (hln : ln ≤ 2147483647) :
    Calls Try.prog 17 #[.agg #[.slice A n c, .slice A' m c'], .slice L ln lc, .bool may] w fun e w' => ∃ v, e = .returned v ∧ w'.ownsRow w.heap.size 3 1 v (rgt (toks bs ps).length l may).length (I64 (rgt (toks bs ps).length l may)) ∧ Below w.heap.size w w' := by
  have h0 : Below w.heap.size w (w.alloc (.cells #[.slice A n c, .slice A' m c'] 37)) := by go_grown
  have q0 := Blk.new w #[.slice A n c, .slice A' m c'] 37
  go_enter Try.func17, Try.ntmps17
  go_wp2_with fail
  refine (size_any A A' n m c c' bs ps _ (hv.below h0) hwf).mono ?_
  rintro e w1 ⟨rfl, hb⟩
  rw [szV_toks]
  replace hb := bthen h0 hb
  have hs1 := hb.size
  have HX := Lib.hid (hx.below hb)
  have T64 := toks_len bs ps
  clear q0 h0 hx
  obtain ⟨N, hN0⟩ : ∃ N, (toks bs ps).length = N := ⟨_, rfl⟩
  rw [hN0] at T64 ⊢
  have HN0 := Lib.hid hN0
  clear hN0
  go_wp2
  go_loopw [8, 9, 10] (fun mv i _ wr => ∃ k : Nat, k ≤ ln ∧ i = .int .i64 (k : Int) ∧ (k = 0 ∨ 1 < N) ∧ wr.ownsRow w1.heap.size 3 1 mv k (I64 ((l.take k).map (rgt1 N may))) ∧ Below w1.heap.size w1 wr) (fun _ i _ _ => ln - (intOf i).toNat)
  case atStart => exact ⟨0, by omega, rfl, .inl rfl, World.ownsRow_nil _ _ _ _, Below.refl _ _⟩
  case round =>
    obtain ⟨k, hk, rfl, hor, oo, hb2⟩ := hrel
    obtain ⟨Ao, co, rfl, _, _⟩ := own_rd oo
    have OR := Lib.hid hor
    clear hor
    by_cases hlt : k < ln
    · have g1 : (k : Int) < (ln : Int) := by omega
      by_cases hN : 1 < N
      · have g2 : (1 : Int) < (N : Int) := by omega
        obtain ⟨b, of, rfl, y0⟩ := (HX.out.below hb2).i64 k (by omega)
        have ea := addr_add b of k
        have TK := Lib.hid (List.take_succ_eq_append_getElem (show k < l.length by omega))
        generalize l[k]'(by omega) = x at *
        have hm := tmod_lt g2 x
        have g3 : (N : Int) ≠ 0 := by omega
        by_cases h1 : x.tmod N < 0
        · have h2 : ¬ x.tmod N + N = 0 := by omega
          have RX := Lib.hid (show rgt1 N may x = x.tmod N + N by unfold rgt1; (repeat' split) <;> simp_all <;> omega)
          skip
          go_wp2_with (at_builtin; refine app (w0 := w1) w1.heap.size rfl _ _ 39 3 (.int .i64 0) 1 8 rfl Try.underlying39 info3 rfl (by decide) (by decide) (.slice Ao k co) k (I64 ((l.take k).map (rgt1 N may))) #[.int .i64 (x.tmod N + N)] rfl rfl rfl (by simp [Value.oneCell']) oo hb2 hb2.size (by omega) ?_; intro g cap w3 ow hb3 hg3 hat)
          all_goals go_round
          case rel => exact ⟨k + 1, by omega, by go_num, .inr hN, by rw [TK.out, List.map_append, I64, List.map_append]; simp only [List.map_cons, List.map_nil]; rw [RX.out]; exact ow, hb3⟩
          case measure => simp [intOf]; omega
        · by_cases h2 : x.tmod N = 0
          · cases may with
            | true =>
              have RX := Lib.hid (show rgt1 N true x = 0 by unfold rgt1; (repeat' split) <;> simp_all <;> omega)
              skip
              go_wp2_with (at_builtin; refine app (w0 := w1) w1.heap.size rfl _ _ 39 3 (.int .i64 0) 1 8 rfl Try.underlying39 info3 rfl (by decide) (by decide) (.slice Ao k co) k (I64 ((l.take k).map (rgt1 N true))) #[.int .i64 0] rfl rfl rfl (by simp [Value.oneCell']) oo hb2 hb2.size (by omega) ?_; intro g cap w3 ow hb3 hg3 hat)
              all_goals go_round
              case rel => exact ⟨k + 1, by omega, by go_num, .inr hN, by rw [TK.out, List.map_append, I64, List.map_append]; simp only [List.map_cons, List.map_nil]; rw [RX.out]; exact ow, hb3⟩
              case measure => simp [intOf]; omega
            | false =>
              have RX := Lib.hid (show rgt1 N false x = 1 by unfold rgt1; (repeat' split) <;> simp_all <;> omega)
              skip
              go_wp2_with (at_builtin; refine app (w0 := w1) w1.heap.size rfl _ _ 39 3 (.int .i64 0) 1 8 rfl Try.underlying39 info3 rfl (by decide) (by decide) (.slice Ao k co) k (I64 ((l.take k).map (rgt1 N false))) #[.int .i64 (1)] rfl rfl rfl (by simp [Value.oneCell']) oo hb2 hb2.size (by omega) ?_; intro g cap w3 ow hb3 hg3 hat)
              all_goals go_round
              case rel => exact ⟨k + 1, by omega, by go_num, .inr hN, by rw [TK.out, List.map_append, I64, List.map_append]; simp only [List.map_cons, List.map_nil]; rw [RX.out]; exact ow, hb3⟩
              case measure => simp [intOf]; omega
          · skip
            have RX := Lib.hid (show rgt1 N may x = x.tmod N by unfold rgt1; (repeat' split) <;> simp_all <;> omega)
            skip
            go_wp2_with (at_builtin; refine app (w0 := w1) w1.heap.size rfl _ _ 39 3 (.int .i64 0) 1 8 rfl Try.underlying39 info3 rfl (by decide) (by decide) (.slice Ao k co) k (I64 ((l.take k).map (rgt1 N may))) #[.int .i64 (x.tmod N)] rfl rfl rfl (by simp [Value.oneCell']) oo hb2 hb2.size (by omega) ?_; intro g cap w3 ow hb3 hg3 hat)
            all_goals go_round
            case rel => exact ⟨k + 1, by omega, by go_num, .inr hN, by rw [TK.out, List.map_append, I64, List.map_append]; simp only [List.map_cons, List.map_nil]; rw [RX.out]; exact ow, hb3⟩
            case measure => simp [intOf]; omega
      · have g2 : ¬ (1 : Int) < (N : Int) := by omega
        have hr : rgt N l may = [] := by unfold rgt; rw [if_neg g2]
        have HR := Lib.hid hr
        have k0 : k = 0 := by rcases OR.out with h | h; exact h; omega
        subst k0
        clear hr
        go_wp2
        go_returns
        refine ⟨_, rfl, ?_, bthen hb hb2⟩
        rw [HN0.out, HR.out]
        exact own_base oo hs1
    · obtain rfl : k = ln := by omega
      have hr : rgt N l may = (l.take k).map (rgt1 N may) := by
        unfold rgt
        rw [List.take_of_length_le (by omega)]
        split
        · rfl
        · rcases OR.out with h | h
          · subst h
            rw [List.length_eq_zero_iff.1 hl]; rfl
          · omega
      have HR := Lib.hid hr
      clear hr
      go_wp2
      go_returns
      refine ⟨_, rfl, ?_, bthen hb hb2⟩
      rw [HN0.out, HR.out]
      have : ((l.take k).map (rgt1 N may)).length = k := by rw [List.length_map, List.length_take]; omega
      rw [this]
      exact own_base oo hs1
end Go.Proofs.Ytcambbnmeiolgaa
namespace Go.Proofs.Ytcambbnmeiolgaa
open Go.RowKit
theorem bgrown {w wi wj : World} {p : Nat} (hb : Below w.heap.size w wi) (hg : wi.grownBy wj (some p)) (hp : w.heap.size ≤ p) : Below w.heap.size w wj := hb.grown hg hb.size (fun k e => by cases e; exact hp)
set_option maxRecDepth 100000 in
set_option maxHeartbeats 400000 in
/-- Long -/
theorem long_any (x : Int) (w : World) : Calls Try.prog 11 #[.int .i64 x] w fun e w' => e = .returned (.bool (decide (2147483647 < x))) ∧ w = w' := by
  go_enter Try.func11, Try.ntmps11
  go_wp2
  go_returns
  exact ⟨rfl, rfl⟩
theorem rgt_ok (n : Nat) (l : List Int) (may : Bool) : okTs n (rgt n l may) := by
  intro x hx
  unfold rgt at hx
  split at hx
  · obtain ⟨y, _, rfl⟩ := List.mem_map.1 hx
    exact ⟨(rgt1_ok (by assumption) may y).1, (rgt1_ok (by assumption) may y).2.1⟩
  · cases hx
theorem rgt_len (n : Int) (l : List Int) (may : Bool) : (rgt n l may).length ≤ l.length := by
  unfold rgt
  split <;> simp
/-- Close -/
theorem close_both (w : World) (p : Nat) (wds : List (List Int)) (sts : List ByteArray) (t : List UInt8) (e : Bool) (h : Strm w p wds sts t e) (ht : t.length ≤ 18) (h0 : 0 < wds.length) :
    Calls Try.prog 22 #[.pointer (some ⟨p, 0, none⟩)] w fun en w' => ∃ u t', en = .returned u ∧ w'.ownsRow w.heap.size 5 1 u (if e then [] else bI t).length (B8 (if e then [] else bI t)) ∧ t'.length ≤ 18 ∧ Strm w' p wds sts t' true ∧ w.grownBy w' (some p) := by
  cases e with
  | true =>
    refine (close_over w p wds sts t h).mono ?_
    rintro en w' ⟨rfl, rfl⟩
    exact ⟨_, t, rfl, World.ownsRow_nil _ _ _ _, ht, h, World.grownBy.refl w _⟩
  | false =>
    refine (close_any w p wds sts t h ht h0).mono ?_
    rintro en w' ⟨u, rfl, ou, hs, hg⟩
    exact ⟨u, [], rfl, ou, by simp, hs, hg⟩
theorem newE_some {bs : List Int} {ps : List (Int × Int)} {strs : List ByteArray} (h : newE bs ps strs = 0) : 2 ≤ (toks bs ps).length := by
  cases hq : vocF bs ps with
  | none => rw [newE_voc hq] at h; cases h
  | some ls =>
    have := (toks_of hq).len
    have h1 := (toks_of hq).n1
    unfold toks
    rw [hq]
    show 2 ≤ ls.length
    omega
theorem size_bad (n : Nat) : ¬ okTs n [(n : Int)] := fun h => by have := (h n (by simp)).2; omega

set_option maxRecDepth 100000 in
set_option maxHeartbeats 8000000 in
/-- TextLate -/
theorem late_any (A A' S L K : Option Addr) (n m sn ln kn c c' sc lc kc : Nat) (bs : List Int) (ps : List (Int × Int)) (strs : List ByteArray) (l late : List Int) (w : World) (hv : Voc w A A' n m bs ps) (hwf : Wf bs ps) (hS : strs.length = sn) (rS : Rd w S (strs.map Value.string)) (hsn : sn ≤ 140737488355328) (hl : l.length = ln) (rl : Rd w L (I64 l)) (hk : late.length = kn) (rk : Rd w K (I64 late)) :
    Calls Try.prog 6 #[.agg #[.slice A n c, .slice A' m c'], .slice S sn sc, .slice L ln lc, .slice K kn kc] w fun e w' => e = .returned (.bool true) ∧ Below w.heap.size w w' := by
  have h0 : Below w.heap.size w (w.alloc (.cells #[.slice A n c, .slice A' m c'] 37)) := by go_grown
  have q0 := Blk.new w #[.slice A n c, .slice A' m c'] 37
  go_enter Try.func6, Try.ntmps6
  go_wp2_with fail
  refine (long_any _ _).mono ?_
  rintro e w1 ⟨rfl, rfl⟩
  by_cases g1 : (2147483647 : Int) < ln
  · go_wp2
    go_returns
    exact ⟨rfl, h0⟩
  · go_wp2_with fail
    refine (long_any _ _).mono ?_
    rintro e w1 ⟨rfl, rfl⟩
    by_cases g2 : (2147483647 : Int) < kn
    · go_wp2
      go_returns
      exact ⟨rfl, h0⟩
    · go_wp2_with fail
      refine (fixed_any _).mono ?_
      rintro e w2 ⟨rfl, hb⟩
      replace q0 := q0.below hb
      replace hb := bthen h0 hb
      have hl2 := q0.lt
      have y0 : w2.cell? ⟨w.heap.size, 0, none⟩ = some (.slice A n c) := q0.cell _
      have y1 : w2.cell? ⟨w.heap.size, 1, none⟩ = some (.slice A' m c') := q0.cell _
      go_wp2_with fail
      refine (new_any A A' S n m sn c c' sc bs ps strs w2 (hv.below hb) hwf hS (rS.below hb) hsn).mono ?_
      rintro e w3 ⟨hb3, (⟨hne, rfl⟩ | ⟨he0, p, hp, rfl, hs⟩)⟩
      · have HB := Lib.hid (bthen hb hb3)
        generalize newE bs ps strs = k0 at *
        have hd : (k0 != 0) = true := by simpa using hne
        clear hb hb3 q0 y0 y1
        go_wp2
        go_returns
        exact ⟨rfl, HB.out⟩
      · replace q0 := q0.below hb3
        replace hb := bthen hb hb3
        have htk := newE_some he0
        have hwp : w.heap.size < p := by omega
        clear hb3 y0 y1 he0 hp hl2 h0
        have y0 : w3.cell? ⟨w.heap.size, 0, none⟩ = some (.slice A n c) := q0.cell _
        have y1 : w3.cell? ⟨w.heap.size, 1, none⟩ = some (.slice A' m c') := q0.cell _
        go_wp2_with fail
        refine (right_any A A' L n m ln c c' lc bs ps l true w3 (hv.below hb) hwf hl (rl.below hb) (by omega)).mono ?_
        rintro e w4 ⟨u, rfl, ou, hb4⟩
        have hpl := hs.lt
        replace hs := hs.below hb4
        replace q0 := q0.below hb4
        replace hb := bthen hb hb4
        obtain ⟨uA, uc, rfl, _, _⟩ := own_rd ou
        have hrl := rgt_len (toks bs ps).length l true
        clear y0 y1 hb4
        go_wp2_with fail
        refine (feed_any uA _ uc (rgt (toks bs ps).length l true) w4 p (toks bs ps) strs [] false hs (by simp) rfl (by omega) (own_rdv ou) (fun b o h _ => by subst h; have := (own_lt ou b rfl).1; omega) (rgt_ok _ _ _)).mono ?_
        rintro e w5 ⟨u2, rfl, ou2, hs5, hg5⟩
        replace q0 := q0.kept hg5 (by simp; omega)
        replace hb := bgrown hb hg5 (by omega)
        obtain ⟨t1, ht1⟩ : ∃ t1, (feedU (strs.map lst) (toks bs ps) ([], [], false) (rgt (toks bs ps).length l true)) = t1 := ⟨_, rfl⟩
        have hS5 := hs5
        obtain ⟨_, _, _, hSta, _, _⟩ := hS5
        have hlen := (feedU_len (strs.map lst) (toks bs ps) hSta.lens (fun x hx => (hSta.w16 x hx).1) (rgt (toks bs ps).length l true) ([], [], false) (by simp)).1
        rw [ht1] at hs5 hlen
        clear ou ou2 hs hg5 hSta ht1 hrl
        go_wp2_with fail
        refine (close_both w5 p (toks bs ps) strs t1.1 t1.2.2 hs5 hlen (by omega)).mono ?_
        rintro e w6 ⟨u3, t2, rfl, _, ht2, hs6, hg6⟩
        replace q0 := q0.kept hg6 (by simp; omega)
        replace hb := bgrown hb hg6 (by omega)
        clear hs5 hlen hg6
        have y0 : w6.cell? ⟨w.heap.size, 0, none⟩ = some (.slice A n c) := q0.cell _
        have y1 : w6.cell? ⟨w.heap.size, 1, none⟩ = some (.slice A' m c') := q0.cell _
        go_wp2_with fail
        refine (right_any A A' K n m kn c c' kc bs ps late true w6 (hv.below hb) hwf hk (rk.below hb) (by omega)).mono ?_
        rintro e w7 ⟨u4, rfl, ou, hb7⟩
        have hpl := hs6.lt
        replace hs6 := hs6.below hb7
        replace q0 := q0.below hb7
        replace hb := bthen hb hb7
        obtain ⟨uB, ud, rfl, _, _⟩ := own_rd ou
        have hrl := rgt_len (toks bs ps).length late true
        clear y0 y1 hb7
        go_wp2_with fail
        refine (feed_any uB _ ud (rgt (toks bs ps).length late true) w7 p (toks bs ps) strs t2 true hs6 ht2 rfl (by omega) (own_rdv ou) (fun b o h _ => by subst h; have := (own_lt ou b rfl).1; omega) (rgt_ok _ _ _)).mono ?_
        rintro e w8 ⟨u5, rfl, ou5, hs8, hg8⟩
        rw [feedU_over _ _ _ _ rfl] at ou5 hs8
        replace q0 := q0.kept hg8 (by simp; omega)
        replace hb := bgrown hb hg8 (by omega)
        obtain ⟨uE, uf, rfl, _, _⟩ := own_rd ou5
        simp only [List.length_nil] at ou5
        clear ou hs6 hg8 hrl ou5
        have y0 : w8.cell? ⟨w.heap.size, 0, none⟩ = some (.slice A n c) := q0.cell _
        have y1 : w8.cell? ⟨w.heap.size, 1, none⟩ = some (.slice A' m c') := q0.cell _
        go_wp2_with fail
        refine (size_any A A' n m c c' bs ps w8 (hv.below hb) hwf).mono ?_
        rintro e w9 ⟨rfl, hb9⟩
        rw [szV_toks]
        replace hs8 := hs8.below hb9
        replace hb := bthen hb hb9
        clear y0 y1 hb9 q0
        go_wp2_with fail
        have k9 := Blk.new w9 #[.int .i64 ((toks bs ps).length : Int)] 3
        have h9 : Below w9.heap.size w9 (w9.alloc (.cells #[.int .i64 ((toks bs ps).length : Int)] 3)) := by go_grown
        refine (feed_bad (some ⟨w9.heap.size, 0, none⟩) 1 1 [((toks bs ps).length : Int)] _ p (toks bs ps) strs t2 true (hs8.below h9) rfl (by omega) (blk_rd k9 rfl) (size_bad _)).mono ?_
        rintro e w10 ⟨rfl, rfl⟩
        replace hs8 := hs8.below h9
        replace hb := bthen hb h9
        clear k9 h9
        go_wp2_with fail
        refine (close_over _ p (toks bs ps) strs t2 hs8).mono ?_
        rintro e w11 ⟨rfl, rfl⟩
        go_wp2_with fail
        refine (over_any _ p (toks bs ps) strs t2 true hs8).mono ?_
        rintro e w12 ⟨rfl, rfl⟩
        go_wp2
        go_returns
        exact ⟨rfl, hb⟩
end Go.Proofs.Ytcambbnmeiolgaa
namespace Go.Proofs.Ytcambbnmeiolgaa
open Go.RowKit
/-- a stream between two calls, and where its words and stops lie -/
def StrV (w : World) (p : Nat) (wv sv : Value) (wds : List (List Int)) (sts : List ByteArray) (t : List UInt8) (e : Bool) : Prop :=
  ∃ T, Sta w p wv sv wds sts ∧ Blk w p (SC wv sv T (.slice none 0 0) e) 85 ∧ lst T = t
theorem StrV.strm {w : World} {p : Nat} {wv sv : Value} {wds : List (List Int)} {sts : List ByteArray} {t : List UInt8} {e : Bool} (h : StrV w p wv sv wds sts t e) : Strm w p wds sts t e := by
  obtain ⟨T, h1, h2, h3⟩ := h
  exact ⟨wv, sv, T, h1, h2, h3⟩
theorem Strm.v {w : World} {p : Nat} {wds : List (List Int)} {sts : List ByteArray} {t : List UInt8} {e : Bool} (h : Strm w p wds sts t e) : ∃ wv sv, StrV w p wv sv wds sts t e := by
  obtain ⟨wv, sv, T, h1, h2, h3⟩ := h
  exact ⟨wv, sv, T, h1, h2, h3⟩
def FeedOutV (w : World) (p : Nat) (wv sv : Value) (wds : List (List Int)) (sts : List ByteArray) (s : S3) (en : Ending) (w' : World) : Prop :=
  ∃ u, en = .returned (.tuple #[u, .int .i64 0]) ∧ w'.ownsRow w.heap.size 5 1 u s.2.1.length (B8 s.2.1) ∧ StrV w' p wv sv wds sts s.1 s.2.2 ∧ w.grownBy w' (some p)
def CloseOutV (w : World) (p : Nat) (wv sv : Value) (wds : List (List Int)) (sts : List ByteArray) (o : List Int) (en : Ending) (w' : World) : Prop :=
  ∃ u, en = .returned u ∧ w'.ownsRow w.heap.size 5 1 u o.length (B8 o) ∧ StrV w' p wv sv wds sts [] true ∧ w.grownBy w' (some p)
set_option maxRecDepth 100000 in
set_option maxHeartbeats 2000000 in
/-- Feed -/
theorem feed_anyV (A : Option Addr) (n c : Nat) (l : List Int) (w : World) (p : Nat) (wv sv : Value) (wds : List (List Int)) (sts : List ByteArray) (t : List UInt8) (e : Bool) (h : StrV w p wv sv wds sts t e) (ht : t.length ≤ 18) (hl : l.length = n) (hn : n ≤ 1099511627776) (hx : Rd w A (I64 l)) (hA : ∀ b o, A = some ⟨b, o, none⟩ → 0 < n → b ≠ p) (hok : okTs wds.length l) :
    Calls Try.prog 18 #[.pointer (some ⟨p, 0, none⟩), .slice A n c] w (FeedOutV w p wv sv wds sts (feedU (sts.map lst) wds (t, [], e) l)) := by
  obtain ⟨T, hS, hb0, hT⟩ := h
  obtain ⟨vals, hwo, _⟩ := hS.wo
  obtain ⟨wA, wc, rfl, _, _⟩ := own_rd hwo
  have hw64 := hS.w64
  have a0 : (⟨p, 0, none⟩ : Addr).add 0 = ⟨p, 0, none⟩ := by simpa using addr_add p 0 0
  have a4 : (⟨p, 0, none⟩ : Addr).add 4 = ⟨p, 4, none⟩ := by simpa using addr_add p 0 4
  have x0 : w.cell? ⟨p, 0, none⟩ = some (.slice wA wds.length wc) := hb0.cell _
  have HST := Lib.hid (show Str w w p (.slice wA wds.length wc) sv t [] e from ⟨_, T, hT, hb0, World.ownsRow_nil _ _ _ _, World.grownBy.refl w _⟩)
  have HS := Lib.hid hS
  have OK := Lib.hid hok
  have HX := Lib.hid hx
  have HA := Lib.hid hA
  have HL := Lib.hid hl
  clear hS hok hx hA hb0 hwo hT hl
  go_enter Try.func18, Try.ntmps18
  go_wp2
  go_loop [7, 14] (fun _ i => ∃ k : Nat, k ≤ n ∧ i = .int .i64 (k : Int)) (fun _ i => n - (intOf i).toNat)
  case atStart => exact ⟨0, by omega, rfl⟩
  case round =>
    obtain ⟨k, hk, rfl⟩ := hrel
    by_cases hlt : k < n
    · obtain ⟨b, of, rfl, y0⟩ := HX.out.i64 k (by rw [HL.out]; exact hlt)
      have ea := addr_add b of k
      have hv := OK.out (l[k]'(by rw [HL.out]; exact hlt)) (List.getElem_mem _)
      have hkn : (k : Int) < (n : Int) := by omega
      generalize l[k]'(by rw [HL.out]; exact hlt) = v at *
      obtain ⟨v1, v2⟩ := hv
      have d1 : decide (v < 0) = false := decide_eq_false (by omega)
      have d2 : decide ((wds.length : Int) ≤ v) = false := decide_eq_false (by omega)
      go_wp2
      go_round
      case rel => exact ⟨k + 1, by omega, by go_num⟩
      case measure => simp [intOf]; omega
    · obtain rfl : k = n := by omega
      clear x0
      go_wp2
      go_loopw [9, 32] (fun _ i wr => ∃ j : Nat, j ≤ k ∧ i = .int .i64 (j : Int) ∧ Str w wr p (.slice wA wds.length wc) sv (feedU (sts.map lst) wds (t, [], e) (l.take j)).1 (feedU (sts.map lst) wds (t, [], e) (l.take j)).2.1 (feedU (sts.map lst) wds (t, [], e) (l.take j)).2.2) (fun _ i _ => k - (intOf i).toNat)
      case atStart => exact ⟨0, by omega, rfl, HST.out⟩
      case round =>
        obtain ⟨j, hj, rfl, hst⟩ := hrel
        have fin : ∀ (s : S3) (wz : World), feedU (sts.map lst) wds (t, [], e) l = s → Str w wz p (.slice wA wds.length wc) sv s.1 s.2.1 s.2.2 → Calls Try.prog 47 #[.pointer (some ⟨p, 0, none⟩)] wz fun en w' => ∃ u, en = .returned u ∧ FeedOutV w p (.slice wA wds.length wc) sv wds sts (feedU (sts.map lst) wds (t, [], e) l) (.returned (.tuple #[u, .int .i64 0])) w' := fun s wz hs h => by
          refine (taken_any w wz p _ sv s.1 s.2.1 s.2.2 h).mono ?_
          rintro en w' ⟨u, T', rfl, ou, hT', hb2, hg⟩
          rw [hs]
          exact ⟨u, rfl, u, rfl, ou, ⟨T', HS.out.kept hg, hb2, hT'⟩, hg⟩
        have FIN := Lib.hid fin
        clear fin
        by_cases hlt : j < k
        · have g1 : (j : Int) < (k : Int) := by omega
          obtain ⟨b, of, rfl, y0⟩ := HX.out.i64 j (by rw [HL.out]; exact hlt)
          have hbp := HA.out b of rfl (by omega)
          have hg0 : w.grownBy wr (some p) := by obtain ⟨_, _, _, _, _, h⟩ := hst; exact h
          have y1 : wr.cell? ⟨b, of + j, none⟩ = _ := (World.cell?_of_block (hg0.block b (World.block_lt_of_cell? w _ y0) (fun he => hbp (by injection he)))).trans y0
          have ea := addr_add b of j
          have hv := OK.out (l[j]'(by rw [HL.out]; exact hlt)) (List.getElem_mem _)
          have NX := Lib.hid (show feedU (sts.map lst) wds (t, [], e) (l.take (j + 1)) = tokU (sts.map lst) wds (feedU (sts.map lst) wds (t, [], e) (l.take j)) (l[j]'(by rw [HL.out]; exact hlt)).toNat by rw [List.take_succ_eq_append_getElem (by rw [HL.out]; exact hlt), feedU_snoc])
          have hlen := feedU_len (sts.map lst) wds HS.out.lens (fun x hx => (HS.out.w16 x hx).1) (l.take j) (t, [], e) ht
          have AL := Lib.hid (show (feedU (sts.map lst) wds (t, [], e) (l.take j)).2.2 = true → feedU (sts.map lst) wds (t, [], e) l = feedU (sts.map lst) wds (t, [], e) (l.take j) from fun h => by
            conv => lhs; rw [← List.take_append_drop j l, feedU_append]
            exact feedU_over _ _ _ _ h)
          have hlen2 : (feedU (sts.map lst) wds (t, [], e) (l.take j)).2.1.length ≤ 70368744177664 := by
            have := hlen.2
            simp only [List.length_take, List.length_nil] at this
            omega
          have hlen1 := hlen.1
          clear y0 hlen hg0
          generalize feedU (sts.map lst) wds (t, [], e) (l.take j) = S at *
          generalize l[j]'(by rw [HL.out]; exact hlt) = v at *
          obtain ⟨v1, v2⟩ := hv
          obtain ⟨vn, rfl⟩ : ∃ vn : Nat, v = (vn : Int) := ⟨v.toNat, by omega⟩
          rw [Int.toNat_natCast] at NX
          have x4 : wr.cell? ⟨p, 4, none⟩ = some (.bool S.2.2) := by obtain ⟨_, _, _, h, _⟩ := hst; exact h.cell _
          have HST2 := Lib.hid hst
          clear hst
          cases he : S.2.2 with
          | true =>
            rw [he] at x4
            have AL2 := Lib.hid (AL.out he)
            clear he
            go_wp2_with fail
            refine (FIN.out S wr AL2.out HST2.out).mono ?_
            rintro en w2 ⟨u, rfl, fo⟩
            have FO := Lib.hid fo
            clear fo
            go_wp2
            go_returns
            exact FO.out
          | false =>
            have hst := HST2.out
            rw [he] at hst x4
            have hse : S = (S.1, S.2.1, false) := by rw [← he]
            have SE := Lib.hid hse
            clear he hse
            go_wp2_with fail
            refine (token_any p _ sv wds sts S.1 S.2.1 vn w wr HS.out hst (by omega) hlen1 hlen2).mono ?_
            rintro en w2 ⟨rfl, h2⟩
            rw [← SE.out] at h2
            have H2 := Lib.hid h2
            clear h2 hst x4
            go_wp2
            go_roundw
            case rel => exact ⟨j + 1, by omega, by go_num, by rw [NX.out]; exact H2.out⟩
            case measure => simp [intOf]; omega
        · obtain rfl : j = k := by omega
          have hF : l.take j = l := List.take_of_length_le (by rw [HL.out]; omega)
          rw [hF] at hst
          clear hF
          go_wp2_with fail
          refine (FIN.out _ wr rfl hst).mono ?_
          rintro en w2 ⟨u, rfl, fo⟩
          have FO := Lib.hid fo
          clear fo hst
          go_wp2
          go_returns
          exact FO.out
set_option maxRecDepth 100000 in
set_option maxHeartbeats 400000 in
theorem close_anyV (w : World) (p : Nat) (wv sv : Value) (wds : List (List Int)) (sts : List ByteArray) (t : List UInt8) (h : StrV w p wv sv wds sts t false) (ht : t.length ≤ 18) (h0 : 0 < wds.length) :
    Calls Try.prog 22 #[.pointer (some ⟨p, 0, none⟩)] w (CloseOutV w p wv sv wds sts (bI t)) := by
  obtain ⟨T, hS, hb0, hT⟩ := h
  have x4 : w.cell? ⟨p, 4, none⟩ = some (.bool false) := hb0.cell _
  have a4 : (⟨p, 0, none⟩ : Addr).add 4 = ⟨p, 4, none⟩ := by simpa using addr_add p 0 4
  have hst : Str w w p wv sv t [] false := ⟨_, T, hT, hb0, World.ownsRow_nil _ _ _ _, World.grownBy.refl w _⟩
  clear hb0
  go_enter Try.func22, Try.ntmps22
  go_wp2_with fail
  refine (token_any p wv sv wds sts t [] 0 w w hS hst h0 ht (by simp)).mono ?_
  rintro e w1 ⟨rfl, hst1⟩
  rw [show tokU (sts.map lst) wds (t, [], false) 0 = ([], [] ++ bI t, true) from rfl] at hst1
  simp only [List.nil_append] at hst1
  go_wp2_with fail
  refine (taken_any w w1 p wv sv [] (bI t) true hst1).mono ?_
  rintro e w2 ⟨u, T', rfl, ou, hT', hb2, hg⟩
  have CO := Lib.hid (show CloseOutV w p wv sv wds sts (bI t) (.returned u) w2 from ⟨u, rfl, ou, ⟨T', hS.kept hg, hb2, hT'⟩, hg⟩)
  clear hst hst1 ou hb2 hg hT'
  go_wp2
  go_returns
  exact CO.out
/-- Close -/
theorem close_bothV (w : World) (p : Nat) (wv sv : Value) (wds : List (List Int)) (sts : List ByteArray) (t : List UInt8) (e : Bool) (h : StrV w p wv sv wds sts t e) (ht : t.length ≤ 18) (h0 : 0 < wds.length) :
    Calls Try.prog 22 #[.pointer (some ⟨p, 0, none⟩)] w fun en w' => ∃ u, en = .returned u ∧ w'.ownsRow w.heap.size 5 1 u (if e then [] else bI t).length (B8 (if e then [] else bI t)) ∧ StrV w' p wv sv wds sts (if e then t else []) true ∧ w.grownBy w' (some p) := by
  cases e with
  | true =>
    refine (close_over w p wds sts t h.strm).mono ?_
    rintro en w' ⟨rfl, rfl⟩
    exact ⟨_, rfl, World.ownsRow_nil _ _ _ _, h, World.grownBy.refl w _⟩
  | false =>
    refine (close_anyV w p wv sv wds sts t h ht h0).mono ?_
    rintro en w' ⟨u, rfl, ou, hs, hg⟩
    exact ⟨u, rfl, ou, hs, hg⟩
end Go.Proofs.Ytcambbnmeiolgaa
namespace Go.Proofs.Ytcambbnmeiolgaa
open Go.RowKit
set_option maxRecDepth 100000 in
set_option maxHeartbeats 1000000 in
/-- join -/
theorem join_any (w : World) (base : Nat) (v : Value) (nb : Nat) (bs : List Int) (U : Option Addr) (un uc : Nat) (cs : List Int) (hv : w.ownsRow base 5 1 v nb (B8 bs)) (hbase : base ≤ w.heap.size) (hu : cs.length = un) (ru : Rd w U (B8 cs)) (hne : ∀ b o, U = some ⟨b, o, none⟩ → 0 < un → v.ownBlock ≠ some b) (hs : nb + un ≤ 70368744177664) :
    Calls Try.prog 19 #[v, .slice U un uc] w fun e w' => ∃ v', e = .returned v' ∧ w'.ownsRow base 5 1 v' (nb + un) (B8 (bs ++ cs)) ∧ w.grownBy w' v.ownBlock ∧ (v'.ownBlock = v.ownBlock ∨ ∀ q, v'.ownBlock = some q → w.heap.size ≤ q) := by
  have hv0 := hv
  obtain ⟨A0, c0, rfl, _, _⟩ := own_rd hv0
  have RU := Lib.hid ru
  have NE := Lib.hid hne
  clear hv0 ru hne
  go_enter Try.func19, Try.ntmps19
  go_wp2
  go_loopw [0, 5] (fun mv i wr => ∃ k : Nat, k ≤ un ∧ i = .int .i64 (k : Int) ∧ wr.ownsRow base 5 1 mv (nb + k) (B8 (bs ++ cs.take k)) ∧ w.grownBy wr (Value.slice A0 nb c0).ownBlock ∧ (mv.ownBlock = (Value.slice A0 nb c0).ownBlock ∨ ∀ q, mv.ownBlock = some q → w.heap.size ≤ q)) (fun _ i _ => un - (intOf i).toNat)
  case atStart => exact ⟨0, by omega, rfl, by simpa using hv, World.grownBy.refl w _, .inl rfl⟩
  case round =>
    obtain ⟨k, hk, rfl, oo, hg, hor⟩ := hrel
    obtain ⟨Ao, co, rfl, _, _⟩ := own_rd oo
    have HG := Lib.hid hg
    have OR := Lib.hid hor
    have hws := hg.size
    clear hg hor hv
    by_cases hlt : k < un
    · have g1 : (k : Int) < (un : Int) := by omega
      obtain ⟨b, o, hU, y0⟩ : ∃ b o, U = some ⟨b, o, none⟩ ∧ w.cell? ⟨b, o + k, none⟩ = some (.int .u8 (cs[k]'(by omega))) := by
        rcases RU.out with h | ⟨b, o, h1, h2⟩
        · have := congrArg List.length h; simp [B8] at this; subst this; simp at hu; omega
        · refine ⟨b, o, h1, ?_⟩
          rw [h2 k (by simp [B8]; omega)]
          simp [B8, List.getElem?_eq_getElem (show k < cs.length by omega)]
      have hbp := NE.out b o hU (by omega)
      have y1 : wr.cell? ⟨b, o + k, none⟩ = _ := (World.cell?_of_block (HG.out.block b (World.block_lt_of_cell? w _ y0) (fun he => hbp he.symm))).trans y0
      have ea := addr_add b o k
      have TK := Lib.hid (List.take_succ_eq_append_getElem (show k < cs.length by omega))
      subst hU
      clear y0
      generalize cs[k]'(by omega) = x at *
      go_wp2_with (at_builtin; refine app (w0 := wr) base rfl _ _ 34 5 (.int .u8 0) 1 1 rfl Try.underlying34 info5 rfl (by decide) (by decide) (.slice Ao (nb + k) co) (nb + k) (B8 (bs ++ cs.take k)) #[.int .u8 x] rfl rfl rfl (by simp [Value.oneCell']) oo (Below.refl base wr) (by omega) (by omega) ?_; intro g cap w3 ow hb3 hg3 hat)
      go_roundw
      case rel =>
        refine ⟨k + 1, by omega, by go_num, ?_, grown_step HG.out hg3 OR.out, ?_⟩
        · rw [TK.out, ← List.append_assoc]
          have e : B8 (bs ++ cs.take k ++ [x]) = B8 (bs ++ cs.take k) ++ [.int .u8 x] := by simp [B8]
          rw [e]
          exact ow
        · rcases hat with h | h
          · rcases OR.out with h2 | h2
            · exact .inl (h.trans h2)
            · exact .inr (fun q hq => h2 q (h.symm.trans hq))
          · exact .inr (fun q hq => by have h3 : q = g := by simp [Value.ownBlock] at hq; omega
                                       have h4 := HG.out.size; omega)
      case measure => simp [intOf]; omega
    · obtain rfl : k = un := by omega
      have hF : cs.take k = cs := List.take_of_length_le (by omega)
      rw [hF] at oo
      clear hF
      go_wp2
      go_returns
      exact ⟨_, rfl, oo, HG.out, OR.out⟩
end Go.Proofs.Ytcambbnmeiolgaa
namespace Go.Proofs.Ytcambbnmeiolgaa
open Go.RowKit
/-! What was given out, put together; two streams and two texts side by side -/
def sh (o : List Int) (s : S3) : S3 := (s.1, o ++ s.2.1, s.2.2)
theorem stepU_sh (sts : List (List UInt8)) (o : List Int) (s : S3) (b : UInt8) : stepU sts (sh o s) b = sh o (stepU sts s b) := by
  unfold stepU sh
  dsimp only
  split
  · rfl
  · split <;> simp
theorem bytesU_sh (sts : List (List UInt8)) (o : List Int) (l : List Int) : ∀ s : S3, bytesU sts (sh o s) l = sh o (bytesU sts s l) := by
  induction l with
  | nil => intro s; rfl
  | cons x l ih =>
    intro s
    show bytesU sts (stepU sts (sh o s) (u8 x)) l = _
    rw [stepU_sh]
    exact ih _
theorem tokU_sh (sts : List (List UInt8)) (wds : List (List Int)) (o : List Int) (s : S3) (k : Nat) : tokU sts wds (sh o s) k = sh o (tokU sts wds s k) := by
  unfold tokU
  split
  · unfold endU sh
    dsimp only
    split
    · rfl
    · simp
  · exact bytesU_sh _ _ _ _
theorem feedU_sh (sts : List (List UInt8)) (wds : List (List Int)) (o : List Int) (l : List Int) : ∀ s : S3, feedU sts wds (sh o s) l = sh o (feedU sts wds s l) := by
  induction l with
  | nil => intro s; rfl
  | cons x l ih =>
    intro s
    show feedU sts wds (tokU sts wds (sh o s) x.toNat) l = _
    rw [tokU_sh]
    exact ih _
/-- a further piece -/
theorem feedU_more (sts : List (List UInt8)) (wds : List (List Int)) (s : S3) (l m : List Int) : feedU sts wds s (l ++ m) = sh (feedU sts wds s l).2.1 (feedU sts wds ((feedU sts wds s l).1, [], (feedU sts wds s l).2.2) m) := by
  rw [feedU_append, ← feedU_sh]
  simp [sh]
theorem own_kp {w wr : World} {base : Nat} {e : TypeId} {size n : Nat} {v : Value} {xs : List Value} (h : w.ownsRow base e size v n xs) (hk : ∀ q, v.ownBlock = some q → wr.heap[q]? = w.heap[q]?) : wr.ownsRow base e size v n xs := by
  refine ⟨h.1, ?_⟩
  rcases h.2 with h | ⟨g, cap, cur, h1, h2, h3, h4⟩
  · exact .inl h
  · exact .inr ⟨g, cap, cur, h1, h2, (hk g (by rw [h1]; rfl)).trans h3, h4⟩
theorem Sta.kp {w6 wr : World} {p p2 : Nat} {wv sv : Value} {wds : List (List Int)} {sts : List ByteArray} {cs : Array Value} (h : Sta w6 p wv sv wds sts) (hk : ∀ k, k < w6.heap.size → k ≠ p → k ≠ p2 → wr.heap[k]? = w6.heap[k]?) (hb : Blk w6 p2 cs 85) : Sta wr p wv sv wds sts := by
  obtain ⟨vals, h1, h2, h3, h4⟩ := h.wo
  have key : ∀ {base : Nat} {e : TypeId} {size n : Nat} {v : Value} {xs : List Value}, (85 : TypeId) ≠ e → w6.ownsRow base e size v n xs → (v.ownBlock = none ∨ v.ownBlock ≠ some p) → wr.ownsRow base e size v n xs := by
    intro base e size n v xs he ho hp
    refine own_kp ho (fun q hq => hk q (own_lt ho q hq).2 ?_ ?_)
    · rintro rfl
      rcases hp with h | h
      · rw [h] at hq; cases hq
      · exact h hq
    · rintro rfl
      exact hb.not_row he ho hq.symm
  exact ⟨⟨vals, key (by decide) h1 h3, ⟨h2.1, fun i v hi => key (by decide) (h2.2 i v hi) (h4 v (List.mem_of_getElem? hi))⟩, h3, h4⟩, ⟨key (by decide) h.so.1 h.so.2, h.so.2⟩, h.w64, h.w16, h.s4, h.s16⟩

structure TwoS (w w6 : World) (p1 p2 : Nat) (v1 v2 : Value × Value) (wds : List (List Int)) (s1 s2 : List ByteArray) (wr : World) (av bv : Value) (oa ob : List Int) (x1 x2 : List UInt8 × Bool) : Prop where
  ne : p1 ≠ p2
  lo : w.heap.size ≤ p1 ∧ w.heap.size ≤ p2
  lw : w.heap.size ≤ w6.heap.size
  st1 : Sta w6 p1 v1.1 v1.2 wds s1
  st2 : Sta w6 p2 v2.1 v2.2 wds s2
  b1 : ∃ cs, Blk w6 p1 cs 85
  b2 : ∃ cs, Blk w6 p2 cs 85
  sz : w6.heap.size ≤ wr.heap.size
  kp : ∀ k, k < w6.heap.size → k ≠ p1 → k ≠ p2 → wr.heap[k]? = w6.heap[k]?
  c1 : ∃ T, Blk wr p1 (SC v1.1 v1.2 T (.slice none 0 0) x1.2) 85 ∧ lst T = x1.1
  c2 : ∃ T, Blk wr p2 (SC v2.1 v2.2 T (.slice none 0 0) x2.2) 85 ∧ lst T = x2.1
  ra : wr.ownsRow w6.heap.size 5 1 av oa.length (B8 oa)
  rb : wr.ownsRow w6.heap.size 5 1 bv ob.length (B8 ob)
  ap : av.ownBlock = none ∨ av.ownBlock ≠ bv.ownBlock
  t1 : x1.1.length ≤ 18
  t2 : x2.1.length ≤ 18
  bl : Below w.heap.size w wr
section
variable {w w6 : World} {p1 p2 : Nat} {v1 v2 : Value × Value} {wds : List (List Int)} {s1 s2 : List ByteArray} {wr : World} {av bv : Value} {oa ob : List Int} {x1 x2 : List UInt8 × Bool}
theorem TwoS.swap (h : TwoS w w6 p1 p2 v1 v2 wds s1 s2 wr av bv oa ob x1 x2) : TwoS w w6 p2 p1 v2 v1 wds s2 s1 wr bv av ob oa x2 x1 :=
  ⟨h.ne.symm, h.lo.symm, h.lw, h.st2, h.st1, h.b2, h.b1, h.sz, fun k h1 h2 h3 => h.kp k h1 h3 h2, h.c2, h.c1, h.rb, h.ra, by
    rcases h.ap with e | e
    · rcases hq : bv.ownBlock with _ | q
      · exact .inl rfl
      · exact .inr (by rw [e]; simp)
    · exact .inr e.symm, h.t2, h.t1, h.bl⟩
theorem TwoS.lt1 (h : TwoS w w6 p1 p2 v1 v2 wds s1 s2 wr av bv oa ob x1 x2) : p1 < w6.heap.size := by obtain ⟨cs, hb⟩ := h.b1; exact hb.lt
theorem TwoS.str (h : TwoS w w6 p1 p2 v1 v2 wds s1 s2 wr av bv oa ob x1 x2) : StrV wr p1 v1.1 v1.2 wds s1 x1.1 x1.2 := by
  obtain ⟨cs, hb⟩ := h.b2
  obtain ⟨T, hT, hl⟩ := h.c1
  exact ⟨T, h.st1.kp h.kp hb, hT, hl⟩
theorem TwoS.below {w' : World} (h : TwoS w w6 p1 p2 v1 v2 wds s1 s2 wr av bv oa ob x1 x2) (hb : Below wr.heap.size wr w') : TwoS w w6 p1 p2 v1 v2 wds s1 s2 w' av bv oa ob x1 x2 := by
  have hs := h.sz
  obtain ⟨T1, hT1, e1⟩ := h.c1
  obtain ⟨T2, hT2, e2⟩ := h.c2
  exact ⟨h.ne, h.lo, h.lw, h.st1, h.st2, h.b1, h.b2, Nat.le_trans hs hb.size, fun k h1 h2 h3 => (hb.block k (by omega)).trans (h.kp k h1 h2 h3), ⟨T1, hT1.below hb, e1⟩, ⟨T2, hT2.below hb, e2⟩, own_below h.ra hb, own_below h.rb hb, h.ap, h.t1, h.t2, bthen h.bl hb⟩
/-- the first stream moves -/
theorem TwoS.move {w' : World} {x : List UInt8 × Bool} (h : TwoS w w6 p1 p2 v1 v2 wds s1 s2 wr av bv oa ob x1 x2) (hs : StrV w' p1 v1.1 v1.2 wds s1 x.1 x.2) (hx : x.1.length ≤ 18) (hg : wr.grownBy w' (some p1)) : TwoS w w6 p1 p2 v1 v2 wds s1 s2 w' av bv oa ob x x2 := by
  have hz := h.sz
  obtain ⟨T, _, hT1, e1⟩ := hs
  obtain ⟨T2, hT2, e2⟩ := h.c2
  have h1 := h.lt1
  have hr : ∀ {v : Value} {n : Nat} {xs : List Value}, wr.ownsRow w6.heap.size 5 1 v n xs → v.ownBlock = none ∨ v.ownBlock ≠ some p1 := fun ho => .inr (fun he => by have := (own_lt ho _ he).1; omega)
  exact ⟨h.ne, h.lo, h.lw, h.st1, h.st2, h.b1, h.b2, Nat.le_trans hz hg.size, fun k h1 h2 h3 => (hg.block k (by omega) (fun he => h2 (by injection he))).trans (h.kp k h1 h2 h3), ⟨T, hT1, e1⟩, ⟨T2, hT2.kept hg (fun he => h.ne (by injection he with he; exact he.symm)), e2⟩, h.ra.kept hg (hr h.ra), h.rb.kept hg (hr h.rb), h.ap, hx, h.t2, bgrown h.bl hg h.lo.1⟩
/-- the first text grows -/
theorem TwoS.text {w' : World} {av' : Value} {o : List Int} {n : Nat} (h : TwoS w w6 p1 p2 v1 v2 wds s1 s2 wr av bv oa ob x1 x2) (ho : w'.ownsRow w6.heap.size 5 1 av' n (B8 (oa ++ o))) (hn : n = (oa ++ o).length) (hg : wr.grownBy w' av.ownBlock) (hor : av'.ownBlock = av.ownBlock ∨ ∀ q, av'.ownBlock = some q → wr.heap.size ≤ q) : TwoS w w6 p1 p2 v1 v2 wds s1 s2 w' av' bv (oa ++ o) ob x1 x2 := by
  subst hn
  have hz := h.sz
  obtain ⟨T1, hT1, e1⟩ := h.c1
  obtain ⟨T2, hT2, e2⟩ := h.c2
  have h1 := h.lt1
  have h2 := h.swap.lt1
  have hq : ∀ q, av.ownBlock = some q → w6.heap.size ≤ q := fun q hq => (own_lt h.ra q hq).1
  have hap : bv.ownBlock = none ∨ bv.ownBlock ≠ av.ownBlock := h.swap.ap
  refine ⟨h.ne, h.lo, h.lw, h.st1, h.st2, h.b1, h.b2, Nat.le_trans hz hg.size, fun k h1 h2 h3 => (hg.block k (by omega) (fun he => by have := hq k he.symm; omega)).trans (h.kp k h1 h2 h3), ⟨T1, hT1.kept hg (fun he => by have := hq _ he.symm; omega), e1⟩, ⟨T2, hT2.kept hg (fun he => by have := hq _ he.symm; omega), e2⟩, ho, h.rb.kept hg hap, ?_, h.t1, h.t2, ?_⟩
  · rcases hor with e | e
    · rw [e]; exact h.ap
    · cases ha : av'.ownBlock with
      | none => exact .inl rfl
      | some q =>
        refine .inr (fun he => ?_)
        have h3 := e q ha
        have h4 := (own_lt h.rb q he.symm).2
        omega
  · have := h.lw
    exact h.bl.grown hg h.bl.size (fun k e => by have := hq k e; omega)
/-- Feed of the first stream -/
theorem TwoS.feed (h : TwoS w w6 p1 p2 v1 v2 wds s1 s2 wr av bv oa ob x1 x2) (A : Option Addr) (n c : Nat) (l : List Int) (hl : l.length = n) (hn : n ≤ 1099511627776) (hx : Rd wr A (I64 l)) (hA : ∀ b o, A = some ⟨b, o, none⟩ → 0 < n → b ≠ p1) (hok : okTs wds.length l) :
    Calls Try.prog 18 #[.pointer (some ⟨p1, 0, none⟩), .slice A n c] wr fun en w' => ∃ u, en = .returned (.tuple #[u, .int .i64 0]) ∧ w'.ownsRow w6.heap.size 5 1 u (feedU (s1.map lst) wds (x1.1, [], x1.2) l).2.1.length (B8 (feedU (s1.map lst) wds (x1.1, [], x1.2) l).2.1) ∧ (∀ q, u.ownBlock = some q → av.ownBlock ≠ some q ∧ bv.ownBlock ≠ some q) ∧ TwoS w w6 p1 p2 v1 v2 wds s1 s2 w' av bv oa ob ((feedU (s1.map lst) wds (x1.1, [], x1.2) l).1, (feedU (s1.map lst) wds (x1.1, [], x1.2) l).2.2) x2 := by
  refine (feed_anyV A n c l wr p1 v1.1 v1.2 wds s1 x1.1 x1.2 h.str h.t1 hl hn hx hA hok).mono ?_
  rintro en w' ⟨u, rfl, ou, hs, hg⟩
  have hlen := (feedU_len (s1.map lst) wds h.st1.lens (fun x hx => (h.st1.w16 x hx).1) l (x1.1, [], x1.2) h.t1).1
  refine ⟨u, rfl, own_base ou h.sz, fun q hq => ⟨fun he => ?_, fun he => ?_⟩, h.move (x := (_, _)) hs hlen hg⟩
  · have := (own_lt ou q hq).1; have := (own_lt h.ra q he).2; omega
  · have := (own_lt ou q hq).1; have := (own_lt h.rb q he).2; omega
/-- Close of the first stream -/
theorem TwoS.close (h : TwoS w w6 p1 p2 v1 v2 wds s1 s2 wr av bv oa ob x1 x2) (h0 : 0 < wds.length) :
    Calls Try.prog 22 #[.pointer (some ⟨p1, 0, none⟩)] wr fun en w' => ∃ u, en = .returned u ∧ w'.ownsRow w6.heap.size 5 1 u (if x1.2 then [] else bI x1.1).length (B8 (if x1.2 then [] else bI x1.1)) ∧ (∀ q, u.ownBlock = some q → av.ownBlock ≠ some q ∧ bv.ownBlock ≠ some q) ∧ TwoS w w6 p1 p2 v1 v2 wds s1 s2 w' av bv oa ob ((if x1.2 then x1.1 else []), true) x2 := by
  refine (close_bothV wr p1 v1.1 v1.2 wds s1 x1.1 x1.2 h.str h.t1 h0).mono ?_
  rintro en w' ⟨u, rfl, ou, hs, hg⟩
  refine ⟨u, rfl, own_base ou h.sz, fun q hq => ⟨fun he => ?_, fun he => ?_⟩, h.move (x := (_, _)) hs (by have := h.t1; dsimp only; split <;> simp_all) hg⟩
  · have := (own_lt ou q hq).1; have := (own_lt h.ra q he).2; omega
  · have := (own_lt ou q hq).1; have := (own_lt h.rb q he).2; omega
/-- join onto the first text -/
theorem TwoS.join (h : TwoS w w6 p1 p2 v1 v2 wds s1 s2 wr av bv oa ob x1 x2) (U : Option Addr) (un uc : Nat) (o : List Int) (ou : wr.ownsRow w6.heap.size 5 1 (.slice U un uc) o.length (B8 o)) (hu : o.length = un) (hne : ∀ q, (Value.slice U un uc).ownBlock = some q → av.ownBlock ≠ some q) (hs : oa.length + o.length ≤ 70368744177664) :
    Calls Try.prog 19 #[av, .slice U un uc] wr fun en w' => ∃ av', en = .returned av' ∧ TwoS w w6 p1 p2 v1 v2 wds s1 s2 w' av' bv (oa ++ o) ob x1 x2 := by
  refine (join_any wr w6.heap.size av oa.length oa U un uc o h.ra h.sz hu (own_rdv ou) ?_ (by omega)).mono ?_
  · intro b o' hU hpos
    subst hU
    exact hne b rfl
  · rintro en w' ⟨av', rfl, ho, hg, hor⟩
    exact ⟨av', rfl, h.text ho (by simp; omega) hg hor⟩
theorem TwoS.over (h : TwoS w w6 p1 p2 v1 v2 wds s1 s2 wr av bv oa ob x1 x2) : Calls Try.prog 21 #[.pointer (some ⟨p1, 0, none⟩)] wr fun en w' => en = .returned (.bool x1.2) ∧ wr = w' := over_any _ _ _ _ _ _ h.str.strm
end
end Go.Proofs.Ytcambbnmeiolgaa
namespace Go.Proofs.Ytcambbnmeiolgaa
open Go.RowKit
def cutF (sts : List (List UInt8)) (wds : List (List Int)) (all : List Int) (j : Nat) : S3 := feedU sts wds ([], [], false) (all.take j)
theorem cutF_add (sts : List (List UInt8)) (wds : List (List Int)) (all : List Int) (a n : Nat) : cutF sts wds all (a + n) = sh (cutF sts wds all a).2.1 (feedU sts wds ((cutF sts wds all a).1, [], (cutF sts wds all a).2.2) ((all.drop a).take n)) := by
  unfold cutF
  rw [List.take_add, feedU_more]
theorem cutF_len (sts : List (List UInt8)) (wds : List (List Int)) (hs : ∀ s ∈ sts, s.length ≤ 16) (hw : ∀ l ∈ wds, l.length ≤ 16) (all : List Int) (j : Nat) : (cutF sts wds all j).2.1.length ≤ 16 * all.length := by
  have := (feedU_len sts wds hs hw (all.take j) ([], [], false) (by simp)).2
  unfold cutF
  simp only [List.length_nil, List.length_take] at this
  omega
theorem rd_piece {w : World} {g : Nat} {l : List Int} (h : Rd w (some ⟨g, 0, none⟩) (I64 l)) (a n : Nat) (hle : a + n ≤ l.length) : Rd w (some ⟨g, a, none⟩) (I64 ((l.drop a).take n)) := by
  refine .inr ⟨g, a, rfl, fun i hi => ?_⟩
  have hi2 : i < n := by simp [I64] at hi; omega
  have := h.cell0 (a + i) (by simp [I64]; omega)
  rw [this]
  simp [I64, hi2]
theorem TwoS.ints {w w6 : World} {p1 p2 : Nat} {v1 v2 : Value × Value} {wds : List (List Int)} {s1 s2 : List ByteArray} {wr : World} {av bv : Value} {oa ob : List Int} {x1 x2 : List UInt8 × Bool} (h : TwoS w w6 p1 p2 v1 v2 wds s1 s2 wr av bv oa ob x1 x2) {base : Nat} {e : TypeId} {size n : Nat} {v : Value} {xs : List Value} (he : (85 : TypeId) ≠ e) (ho : w6.ownsRow base e size v n xs) : wr.ownsRow base e size v n xs := by
  obtain ⟨c1, b1⟩ := h.b1
  obtain ⟨c2, b2⟩ := h.b2
  refine own_kp ho (fun q hq => h.kp q (own_lt ho q hq).2 ?_ ?_)
  · rintro rfl; exact b1.not_row he ho hq.symm
  · rintro rfl; exact b2.not_row he ho hq.symm
theorem TwoS.close' {w w6 : World} {p1 p2 : Nat} {v1 v2 : Value × Value} {wds : List (List Int)} {s1 s2 : List ByteArray} {wr : World} {av bv : Value} {oa ob : List Int} {x1 x2 : List UInt8 × Bool} (h : TwoS w w6 p1 p2 v1 v2 wds s1 s2 wr av bv oa ob x1 x2) (h0 : 0 < wds.length) (o : List Int) (tl : List UInt8) (ho : (if x1.2 then [] else bI x1.1) = o) (ht : (if x1.2 then x1.1 else []) = tl) :
    Calls Try.prog 22 #[.pointer (some ⟨p1, 0, none⟩)] wr fun en w' => ∃ u, en = .returned u ∧ w'.ownsRow w6.heap.size 5 1 u o.length (B8 o) ∧ (∀ q, u.ownBlock = some q → av.ownBlock ≠ some q ∧ bv.ownBlock ≠ some q) ∧ TwoS w w6 p1 p2 v1 v2 wds s1 s2 w' av bv oa ob (tl, true) x2 := by
  have := h.close h0
  rwa [ho, ht] at this
theorem Strm.blk {w : World} {p : Nat} {wds : List (List Int)} {sts : List ByteArray} {t : List UInt8} {e : Bool} (h : Strm w p wds sts t e) : ∃ cs, Blk w p cs 85 := by
  obtain ⟨_, _, _, _, h, _⟩ := h
  exact ⟨_, h⟩
/-- two fresh streams and two empty texts -/
theorem two_new {w w6 : World} {p1 p2 : Nat} {wds : List (List Int)} {s1 s2 : List ByteArray} (hb : Below w.heap.size w w6) (h1 : Strm w6 p1 wds s1 [] false) (h2 : Strm w6 p2 wds s2 [] false) (hne : p1 ≠ p2) (l1 : w.heap.size ≤ p1) (l2 : w.heap.size ≤ p2) :
    ∃ v1 v2, TwoS w w6 p1 p2 v1 v2 wds s1 s2 w6 (.slice none 0 0) (.slice none 0 0) [] [] ([], false) ([], false) := by
  have k1 := h1.blk
  have k2 := h2.blk
  obtain ⟨a1, b1, T1, e1, f1, g1⟩ := h1
  obtain ⟨a2, b2, T2, e2, f2, g2⟩ := h2
  exact ⟨(a1, b1), (a2, b2), hne, ⟨l1, l2⟩, hb.size, e1, e2, k1, k2, Nat.le_refl _, fun _ _ _ _ => rfl, ⟨T1, f1, g1⟩, ⟨T2, f2, g2⟩, World.ownsRow_nil _ _ _ _, World.ownsRow_nil _ _ _ _, .inl rfl, by simp, by simp, hb⟩
end Go.Proofs.Ytcambbnmeiolgaa
namespace Go.Proofs.Ytcambbnmeiolgaa
open Go.RowKit
/-! While a stream is not over: what was given out, and what waits, is what came -/
theorem bI_u8 {x : Int} (h : 0 ≤ x ∧ x < 256) : bI [u8 x] = [x] := by
  have : (u8 x).toNat = x.toNat := by
    unfold u8
    rw [UInt8.toNat_ofNat']
    omega
  simp only [bI, List.map_cons, List.map_nil, this]
  congr 1
  omega
theorem stepU_keep (sts : List (List UInt8)) (s : S3) (b : UInt8) (h0 : s.2.2 = false) (h : (stepU sts s b).2.2 = false) : (stepU sts s b).2.1 ++ bI (stepU sts s b).1 = s.2.1 ++ bI s.1 ++ bI [b] := by
  revert h
  unfold stepU
  rw [if_neg (by rw [h0]; simp)]
  split
  · intro h; cases h
  · intro _
    dsimp only
    rw [List.append_assoc, ← bI_append, List.take_append_drop, bI_append, List.append_assoc]
theorem bytesU_keep (sts : List (List UInt8)) (l : List Int) : ∀ (s : S3), (∀ x ∈ l, 0 ≤ x ∧ x < 256) → s.2.2 = false → (bytesU sts s l).2.2 = false → (bytesU sts s l).2.1 ++ bI (bytesU sts s l).1 = s.2.1 ++ bI s.1 ++ l := by
  induction l with
  | nil => intro s _ _ _; simp [bytesU]
  | cons x l ih =>
    intro s hx h0 h
    have e : bytesU sts s (x :: l) = bytesU sts (stepU sts s (u8 x)) l := rfl
    rw [e] at h ⊢
    cases h1 : (stepU sts s (u8 x)).2.2 with
    | true =>
      rw [bytesU_over sts l _ h1, h1] at h
      cases h
    | false =>
      rw [ih _ (fun y hy => hx y (List.mem_cons_of_mem _ hy)) h1 h, stepU_keep sts s _ h0 h1, bI_u8 (hx x (by simp))]
      simp
/-- the bytes of tokens -/
def cameU (wds : List (List Int)) (l : List Int) : List Int := (l.map fun k => wds.getD k.toNat []).flatten
theorem cameU_snoc (wds : List (List Int)) (l : List Int) (k : Int) : cameU wds (l ++ [k]) = cameU wds l ++ wds.getD k.toNat [] := by simp [cameU]
theorem word_u8 {wds : List (List Int)} (hw : ∀ l ∈ wds, l.length ≤ 16 ∧ ∀ x ∈ l, 0 ≤ x ∧ x < 256) (k : Nat) : ∀ x ∈ wds.getD k [], 0 ≤ x ∧ x < 256 := by
  intro x hx
  obtain ⟨y, hy, hxy⟩ := getD_mem hx
  exact (hw y hy).2 x hxy
theorem feedU_keep (sts : List (List UInt8)) (wds : List (List Int)) (hw : ∀ l ∈ wds, l.length ≤ 16 ∧ ∀ x ∈ l, 0 ≤ x ∧ x < 256) (l : List Int) : ∀ (s : S3), (∀ x ∈ l, 1 ≤ x) → s.2.2 = false → (feedU sts wds s l).2.2 = false → (feedU sts wds s l).2.1 ++ bI (feedU sts wds s l).1 = s.2.1 ++ bI s.1 ++ cameU wds l := by
  induction l with
  | nil => intro s _ _ _; simp [feedU, cameU]
  | cons k l ih =>
    intro s hk h0 h
    have e : feedU sts wds s (k :: l) = feedU sts wds (tokU sts wds s k.toNat) l := rfl
    rw [e] at h ⊢
    have hk1 := hk k (by simp)
    have et : tokU sts wds s k.toNat = bytesU sts s (wds.getD k.toNat []) := by unfold tokU; rw [if_neg (by omega)]
    rw [et] at h ⊢
    cases h1 : (bytesU sts s (wds.getD k.toNat [])).2.2 with
    | true =>
      rw [feedU_over sts wds l _ h1, h1] at h
      cases h
    | false =>
      rw [ih _ (fun y hy => hk y (List.mem_cons_of_mem _ hy)) h1 h, bytesU_keep sts _ s (word_u8 hw _) h0 h1]
      simp [cameU]
/-! Without stop strings: never over by bytes alone; 3 wait at most -/
theorem stepU_nil (s : S3) (b : UInt8) (h0 : s.2.2 = false) : (stepU [] s b).2.2 = false ∧ (stepU [] s b).1.length ≤ 3 := by
  have hl : longest [] (s.1 ++ [b]) = 0 := rfl
  have hh : holdL [] (s.1 ++ [b]) = 0 := rfl
  unfold stepU
  rw [if_neg (by rw [h0]; simp), hl, if_neg (by omega)]
  refine ⟨rfl, ?_⟩
  have hw : waitsL [] (s.1 ++ [b]) ≤ 3 := by
    unfold waitsL
    rw [hh]
    have := tailR_le ((s.1 ++ [b]).take ((s.1 ++ [b]).length - 0)) (min 3 ((s.1 ++ [b]).length - 0))
    omega
  dsimp only
  rw [List.length_drop]
  omega
theorem bytesU_nil (l : List Int) : ∀ (s : S3), s.2.2 = false → s.1.length ≤ 3 → (bytesU [] s l).2.2 = false ∧ (bytesU [] s l).1.length ≤ 3 := by
  induction l with
  | nil => intro s h0 h3; exact ⟨h0, h3⟩
  | cons x l ih =>
    intro s h0 h3
    have h := stepU_nil s (u8 x) h0
    exact ih _ h.1 h.2
theorem feedU_nil (wds : List (List Int)) (l : List Int) : ∀ (s : S3), (∀ x ∈ l, 1 ≤ x) → s.2.2 = false → s.1.length ≤ 3 → (feedU [] wds s l).2.2 = false ∧ (feedU [] wds s l).1.length ≤ 3 := by
  induction l with
  | nil => intro s _ h0 h3; exact ⟨h0, h3⟩
  | cons k l ih =>
    intro s hk h0 h3
    have e : feedU [] wds s (k :: l) = feedU [] wds (tokU [] wds s k.toNat) l := rfl
    have hk1 := hk k (by simp)
    have et : tokU [] wds s k.toNat = bytesU [] s (wds.getD k.toNat []) := by unfold tokU; rw [if_neg (by omega)]
    rw [e, et]
    have h := bytesU_nil (wds.getD k.toNat []) s h0 h3
    exact ih _ (fun y hy => hk y (List.mem_cons_of_mem _ hy)) h.1 h.2
end Go.Proofs.Ytcambbnmeiolgaa
namespace Go.Proofs.Ytcambbnmeiolgaa
open Go.RowKit
/-! Stop strings: none stands in what comes out; where one ended the stream, it stands right behind -/
theorem u8_bI (l : List UInt8) : (bI l).map u8 = l := by
  unfold bI
  rw [List.map_map]
  conv => rhs; rw [← List.map_id l]
  refine List.map_congr_left (fun b _ => ?_)
  show u8 (b.toNat : Int) = b
  unfold u8
  simp
theorem bI_u8s {l : List Int} (h : ∀ x ∈ l, 0 ≤ x ∧ x < 256) : bI (l.map u8) = l := by
  induction l with
  | nil => rfl
  | cons x l ih =>
    have h1 := bI_u8 (h x (by simp))
    have h2 := ih (fun y hy => h y (List.mem_cons_of_mem _ hy))
    simp only [bI, List.map_cons, List.map_nil, List.cons.injEq] at h1 h2 ⊢
    exact ⟨h1.1, h2⟩
theorem sfx_snoc {x t : List UInt8} {b : UInt8} {k : Nat} (hk : k < x.length) (h : x.take (k + 1) <:+ t ++ [b]) : x.take k <:+ t := by
  rw [List.take_succ_eq_append_getElem hk] at h
  obtain ⟨p, hp⟩ := h
  rw [← List.append_assoc] at hp
  obtain ⟨h1, _⟩ := List.append_inj' hp rfl
  exact ⟨p, h1⟩
theorem inf_snoc {x t : List UInt8} {b : UInt8} (h : x <:+: t ++ [b]) : x <:+: t ∨ x <:+ t ++ [b] := by
  obtain ⟨p, q, hq⟩ := h
  rcases List.eq_nil_or_concat q with rfl | ⟨q', c, rfl⟩
  · exact .inr ⟨p, by simpa using hq⟩
  · left
    rw [List.concat_eq_append, ← List.append_assoc] at hq
    obtain ⟨h1, _⟩ := List.append_inj' hq rfl
    exact ⟨p, q', h1⟩
theorem hold1_ge {t s : List UInt8} {h k : Nat} (hs : sfx t (s.take k) = true) : ∀ K, k ≤ K → k ≤ hold1 t s h K := by
  intro K
  induction K with
  | zero => intro hk; omega
  | succ K ih =>
    intro hk
    simp only [hold1]
    split
    · omega
    · split
      · omega
      · rename_i h2
        rcases Nat.lt_or_ge k (K + 1) with h3 | h3
        · exact ih (by omega)
        · obtain rfl : k = K + 1 := by omega
          exact absurd hs h2
theorem holdF_ge (t : List UInt8) : ∀ (sts : List (List UInt8)) (h : Nat), h ≤ sts.foldl (fun h s => hold1 t s h (min (s.length - 1) t.length)) h := by
  intro sts
  induction sts with
  | nil => intro h; exact Nat.le_refl _
  | cons s r ih =>
    intro h
    rw [List.foldl_cons]
    exact Nat.le_trans (hold1_le t s h _).1 (ih _)
theorem holdL_ge {t s : List UInt8} {k : Nat} (hs : sfx t (s.take k) = true) (h1 : k ≤ s.length - 1) (h2 : k ≤ t.length) : ∀ (sts : List (List UInt8)) (h : Nat), s ∈ sts → k ≤ sts.foldl (fun h s => hold1 t s h (min (s.length - 1) t.length)) h := by
  intro sts
  induction sts with
  | nil => intro h hm; cases hm
  | cons x r ih =>
    intro h hm
    rw [List.foldl_cons]
    rcases List.mem_cons.1 hm with rfl | hm
    · exact Nat.le_trans (hold1_ge hs _ (by omega)) (holdF_ge t r _)
    · exact ih _ hm
theorem longF_ge (t : List UInt8) : ∀ (sts : List (List UInt8)) (g : Nat), g ≤ sts.foldl (fun g s => if sfx t s then max g s.length else g) g := by
  intro sts
  induction sts with
  | nil => intro g; exact Nat.le_refl _
  | cons s r ih =>
    intro g
    rw [List.foldl_cons]
    refine Nat.le_trans ?_ (ih _)
    split <;> omega
theorem longest_ge {t s : List UInt8} (hs : sfx t s = true) : ∀ (sts : List (List UInt8)) (g : Nat), s ∈ sts → s.length ≤ sts.foldl (fun g s => if sfx t s then max g s.length else g) g := by
  intro sts
  induction sts with
  | nil => intro g hm; cases hm
  | cons x r ih =>
    intro g hm
    rw [List.foldl_cons]
    rcases List.mem_cons.1 hm with rfl | hm
    · refine Nat.le_trans ?_ (longF_ge t r _)
      rw [if_pos hs]
      omega
    · exact ih _ hm
theorem longest_mem (t : List UInt8) : ∀ (sts : List (List UInt8)) (g : Nat), sts.foldl (fun g s => if sfx t s then max g s.length else g) g = g ∨ ∃ s ∈ sts, sfx t s = true ∧ s.length = sts.foldl (fun g s => if sfx t s then max g s.length else g) g := by
  intro sts
  induction sts with
  | nil => intro g; exact .inl rfl
  | cons x r ih =>
    intro g
    rw [List.foldl_cons]
    rcases ih (if sfx t x then max g x.length else g) with h | ⟨s, hm, h1, h2⟩
    · rw [h]
      split
      · rename_i hx
        rcases Nat.le_total g x.length with hl | hl
        · exact .inr ⟨x, by simp, hx, by omega⟩
        · left; omega
      · exact .inl rfl
    · exact .inr ⟨s, by simp [hm], h1, h2⟩
/-- what holds of a stream that has seen t -/
def StpI (sts : List (List UInt8)) (s : S3) (t : List UInt8) : Prop :=
  ∃ o, s.2.1 = bI o ∧
    (s.2.2 = false → o ++ s.1 = t ∧ (∀ x ∈ sts, ¬ x <:+: t) ∧ (∀ x ∈ sts, ∀ k, k ≤ x.length → x.take k <:+ t → k ≤ s.1.length)) ∧
    (s.2.2 = true → (∃ x ∈ sts, (o ++ x) <+: t) ∧ (∀ x ∈ sts, ¬ x <:+: o))
theorem stpI_zero {sts : List (List UInt8)} (h1 : ∀ x ∈ sts, 1 ≤ x.length) : StpI sts ([], [], false) [] := by
  refine ⟨[], rfl, fun _ => ⟨rfl, fun x hx h => ?_, fun x hx k hk h => ?_⟩, fun h => by cases h⟩
  · have e := h.length_le
    have e1 := h1 x hx
    rw [List.length_nil] at e
    omega
  · have e := h.length_le
    have e1 := h1 x hx
    rw [List.length_take, List.length_nil] at e
    dsimp only
    rw [List.length_nil]
    omega
theorem stpI_step {sts : List (List UInt8)} (h1 : ∀ x ∈ sts, 1 ≤ x.length) {s : S3} {t : List UInt8} (b : UInt8) (h : StpI sts s t) : StpI sts (stepU sts s b) (t ++ [b]) := by
  obtain ⟨o, ho, hF, hT⟩ := h
  cases h0 : s.2.2 with
  | true =>
    rw [stepU_over sts s b h0]
    obtain ⟨⟨x, hx, hp⟩, hn⟩ := hT h0
    exact ⟨o, ho, fun h => (by rw [h0] at h; cases h), fun _ => ⟨⟨x, hx, hp.trans (List.prefix_append _ _)⟩, hn⟩⟩
  | false =>
    obtain ⟨e, hno, hk⟩ := hF h0
    unfold stepU
    rw [if_neg (by rw [h0]; simp)]
    obtain ⟨tl, htl⟩ : ∃ tl, s.1 ++ [b] = tl := ⟨_, rfl⟩
    have e' : o ++ tl = t ++ [b] := by rw [← htl, ← List.append_assoc, e]
    have hlen : tl.length = s.1.length + 1 := by rw [← htl]; simp
    rw [htl]
    have hll := longest_le tl sts
    have hsub : ∀ {y : List UInt8} {m : Nat}, y <:+ t ++ [b] → y.length ≤ m → m ≤ tl.length → y <:+ tl := by
      intro y m hy h1 h2
      refine List.suffix_of_suffix_length_le hy ⟨o, e'⟩ (by omega)
    split
    · rename_i hg
      refine ⟨o ++ tl.take (tl.length - longest sts tl), by dsimp only; rw [ho, bI_append], fun h => (by cases h), fun _ => ?_⟩
      rcases longest_mem tl sts 0 with h | ⟨x, hx, hs, hxl⟩
      · exact absurd h (by unfold longest at hg; omega)
      · have hxl' : x.length = longest sts tl := hxl
        have hxe : x = tl.drop (tl.length - longest sts tl) := by
          have := List.suffix_iff_eq_drop.1 (sfx_iff.1 hs)
          rw [hxl'] at this
          exact this
        have hte : (o ++ tl.take (tl.length - longest sts tl)) ++ x = t ++ [b] := by
          rw [hxe, List.append_assoc, List.take_append_drop, e']
        refine ⟨⟨x, hx, by rw [hte]; exact List.prefix_refl _⟩, fun y hy hin => hno y hy ?_⟩
        refine List.IsInfix.trans hin ?_
        have hpre : (o ++ tl.take (tl.length - longest sts tl)) <+: t := by
          refine List.prefix_of_prefix_length_le (l₃ := t ++ [b]) ⟨x, hte⟩ (List.prefix_append _ _) ?_
          have := congrArg List.length hte
          rw [List.length_append, List.length_append (bs := [b])] at this
          have h3 := h1 x hx
          simp only [List.length_cons, List.length_nil] at this
          omega
        exact hpre.isInfix
    · rename_i hg
      have hnos : ∀ x ∈ sts, ¬ x <:+ t ++ [b] := by
        intro x hx hs
        have h2 := h1 x hx
        obtain ⟨m, hm⟩ : ∃ m, x.length = m + 1 := ⟨x.length - 1, by omega⟩
        have h3 : x.take m <:+ t := sfx_snoc (b := b) (by omega) (by rw [← hm, List.take_length]; exact hs)
        have h4 := hk x hx m (by omega) h3
        have h5 : sfx tl x = true := sfx_iff.2 (hsub hs (Nat.le_refl _) (by omega))
        have h6 := longest_ge h5 sts 0 hx
        unfold longest at hg
        omega
      have hw := waitsL_le sts tl
      refine ⟨o ++ tl.take (tl.length - waitsL sts tl), by dsimp only; rw [ho, bI_append], fun _ => ⟨?_, ?_, ?_⟩, fun h => (by cases h)⟩
      · dsimp only
        rw [List.append_assoc, List.take_append_drop, e']
      · intro x hx hin
        rcases inf_snoc hin with h | h
        · exact hno x hx h
        · exact hnos x hx h
      · intro x hx k hkx hs
        dsimp only
        rw [List.length_drop]
        rcases Nat.eq_zero_or_pos k with rfl | hpos
        · omega
        · rcases Nat.lt_or_ge k x.length with hlt | hge
          · obtain ⟨m, rfl⟩ : ∃ m, k = m + 1 := ⟨k - 1, by omega⟩
            have h4 := hk x hx m (by omega) (sfx_snoc (by omega) hs)
            have h5 : sfx tl (x.take (m + 1)) = true := sfx_iff.2 (hsub hs (by rw [List.length_take]; exact Nat.min_le_left _ _) (by omega))
            have h6 : m + 1 ≤ holdL sts tl := holdL_ge h5 (by omega) (by omega) sts 0 hx
            unfold waitsL at hw ⊢
            omega
          · exact absurd (by rwa [List.take_of_length_le hge] at hs) (hnos x hx)
theorem stpI_bytes {sts : List (List UInt8)} (h1 : ∀ x ∈ sts, 1 ≤ x.length) (l : List Int) : ∀ (s : S3) (t : List UInt8), StpI sts s t → StpI sts (bytesU sts s l) (t ++ l.map u8) := by
  induction l with
  | nil => intro s t h; simpa [bytesU] using h
  | cons x l ih =>
    intro s t h
    have := ih _ _ (stpI_step h1 (u8 x) h)
    rw [List.append_assoc] at this
    exact this
theorem stpI_feed {sts : List (List UInt8)} (h1 : ∀ x ∈ sts, 1 ≤ x.length) (wds : List (List Int)) (l : List Int) : ∀ (s : S3) (t : List UInt8), (∀ x ∈ l, 1 ≤ x) → StpI sts s t → StpI sts (feedU sts wds s l) (t ++ (cameU wds l).map u8) := by
  induction l with
  | nil => intro s t _ h; simpa [feedU, cameU] using h
  | cons k l ih =>
    intro s t hk h
    have hk1 := hk k (by simp)
    have et : tokU sts wds s k.toNat = bytesU sts s (wds.getD k.toNat []) := by unfold tokU; rw [if_neg (by omega)]
    have := ih (tokU sts wds s k.toNat) _ (fun y hy => hk y (List.mem_cons_of_mem _ hy)) (by rw [et]; exact stpI_bytes h1 (wds.getD k.toNat []) s t h)
    have e : cameU wds (k :: l) = wds.getD k.toNat [] ++ cameU wds l := by simp [cameU]
    rw [e, List.map_append, ← List.append_assoc]
    exact this
theorem came_byte {wds : List (List Int)} (hw : ∀ l ∈ wds, l.length ≤ 16 ∧ ∀ x ∈ l, 0 ≤ x ∧ x < 256) (l : List Int) : ∀ x ∈ cameU wds l, 0 ≤ x ∧ x < 256 := by
  intro x hx
  unfold cameU at hx
  obtain ⟨y, hy, hxy⟩ := List.mem_flatten.1 hx
  obtain ⟨k, _, rfl⟩ := List.mem_map.1 hy
  exact word_u8 hw _ x hxy
/-- what came out in all, of tokens none of which is the end -/
def allOut (sts : List (List UInt8)) (wds : List (List Int)) (l : List Int) : List Int := (feedU sts wds ([], [], false) l).2.1 ++ (if (feedU sts wds ([], [], false) l).2.2 then [] else bI (feedU sts wds ([], [], false) l).1)
theorem stops_open {sts : List (List UInt8)} (h1 : ∀ x ∈ sts, 1 ≤ x.length) {wds : List (List Int)} (hw : ∀ l ∈ wds, l.length ≤ 16 ∧ ∀ x ∈ l, 0 ≤ x ∧ x < 256) (l : List Int) (hl : ∀ x ∈ l, 1 ≤ x) (h : (feedU sts wds ([], [], false) l).2.2 = false) :
    allOut sts wds l = cameU wds l ∧ ∀ x ∈ sts, ¬ x <:+: (cameU wds l).map u8 := by
  obtain ⟨o, ho, hF, _⟩ := stpI_feed h1 wds l _ _ hl (stpI_zero h1)
  obtain ⟨e, hno, _⟩ := hF h
  unfold allOut
  rw [List.nil_append] at e hno
  refine ⟨?_, hno⟩
  rw [h, if_neg (by simp), ho, ← bI_append, e, bI_u8s (came_byte hw l)]
theorem stops_over {sts : List (List UInt8)} (h1 : ∀ x ∈ sts, 1 ≤ x.length) {wds : List (List Int)} (hw : ∀ l ∈ wds, l.length ≤ 16 ∧ ∀ x ∈ l, 0 ≤ x ∧ x < 256) (l : List Int) (hl : ∀ x ∈ l, 1 ≤ x) (h : (feedU sts wds ([], [], false) l).2.2 = true) :
    (∃ x ∈ sts, allOut sts wds l ++ bI x <+: cameU wds l) ∧ ∀ x ∈ sts, ¬ x <:+: (allOut sts wds l).map u8 := by
  obtain ⟨o, ho, _, hT⟩ := stpI_feed h1 wds l _ _ hl (stpI_zero h1)
  obtain ⟨⟨x, hx, hp⟩, hno⟩ := hT h
  have e : allOut sts wds l = bI o := by unfold allOut; rw [h, if_pos rfl, ho, List.append_nil]
  rw [List.nil_append] at hp
  refine ⟨⟨x, hx, ?_⟩, fun y hy => ?_⟩
  · rw [e, ← bI_append, ← bI_u8s (came_byte hw l)]
    obtain ⟨q, hq⟩ := hp
    exact ⟨bI q, by rw [← bI_append, hq]⟩
  · rw [e, u8_bI]; exact hno y hy
end Go.Proofs.Ytcambbnmeiolgaa
namespace Go.Proofs.Ytcambbnmeiolgaa
open Go.RowKit
/-! Whole runes in, whole runes out -/
def Whole (l : List UInt8) : Prop := ∃ cs : List Nat, (∀ c ∈ cs, okC c) ∧ l = (cs.map encN).flatten
theorem whole_nil : Whole [] := ⟨[], by simp, rfl⟩
theorem whole_cons {c : Nat} (hc : okC c) {l : List UInt8} (h : Whole l) : Whole (encN c ++ l) := by
  obtain ⟨cs, h1, rfl⟩ := h
  exact ⟨c :: cs, by simpa using ⟨hc, h1⟩, by simp⟩
theorem whole_enc {c : Nat} (hc : okC c) : Whole (encN c) := by
  have := whole_cons hc whole_nil
  rwa [List.append_nil] at this
theorem Whole.append {a b : List UInt8} (h : Whole a) (h' : Whole b) : Whole (a ++ b) := by
  obtain ⟨cs, h1, rfl⟩ := h
  obtain ⟨ds, h2, rfl⟩ := h'
  refine ⟨cs ++ ds, fun c hc => ?_, by simp⟩
  rcases List.mem_append.1 hc with h | h
  · exact h1 c h
  · exact h2 c h
theorem whole_cut (cs : List Nat) : ∀ (x y : List UInt8), (∀ c ∈ cs, okC c) → (cs.map encN).flatten = x ++ y → (Whole x ∧ Whole y) ∨ ∃ w p q c r, x = w ++ p ∧ okC c ∧ encN c = p ++ q ∧ p ≠ [] ∧ q ≠ [] ∧ y = q ++ r := by
  induction cs with
  | nil =>
    intro x y _ h
    obtain ⟨rfl, rfl⟩ := List.append_eq_nil_iff.1 h.symm
    exact .inl ⟨whole_nil, whole_nil⟩
  | cons c cs ih =>
    intro x y hk h
    have hc := hk c (by simp)
    have hk' : ∀ d ∈ cs, okC d := fun d hd => hk d (by simp [hd])
    rw [List.map_cons, List.flatten_cons] at h
    rcases List.append_eq_append_iff.1 h with ⟨a, h1, h2⟩ | ⟨a, h1, h2⟩
    · rcases ih a y hk' h2 with ⟨h3, h4⟩ | ⟨w, p, q, d, r, h3, h4, h5, h6, h7, h8⟩
      · exact .inl ⟨by rw [h1]; exact whole_cons hc h3, h4⟩
      · exact .inr ⟨encN c ++ w, p, q, d, r, by rw [h1, h3, List.append_assoc], h4, h5, h6, h7, h8⟩
    · have hr : Whole (cs.map encN).flatten := ⟨cs, hk', rfl⟩
      by_cases hx : x = []
      · subst hx
        rw [List.nil_append] at h1
        exact .inl ⟨whole_nil, by rw [h2, ← h1]; exact whole_cons hc hr⟩
      · by_cases ha : a = []
        · subst ha
          rw [List.append_nil] at h1
          rw [List.nil_append] at h2
          exact .inl ⟨by rw [← h1]; exact whole_enc hc, by rw [h2]; exact hr⟩
        · exact .inr ⟨[], x, a, c, _, rfl, hc, h1, hx, ha, h2⟩
theorem part_cont {c : Nat} (hc : okC c) {p q : List UInt8} (h : encN c = p ++ q) (hp : p ≠ []) : ∀ x ∈ q, contB x := by
  obtain ⟨a, t, he, _, ht⟩ := enc_first hc
  intro x hx
  cases p with
  | nil => exact absurd rfl hp
  | cons b p =>
    rw [h] at he
    simp only [List.cons_append, List.cons.injEq] at he
    exact ht x (by rw [← he.2]; simp [hx])
theorem part_first {c : Nat} (hc : okC c) {a : UInt8} {p q : List UInt8} (h : encN c = (a :: p) ++ q) : ¬ contB a := by
  obtain ⟨b, t, he, hb, _⟩ := enc_first hc
  rw [h] at he
  simp only [List.cons_append, List.cons.injEq] at he
  rw [he.1]
  exact hb
theorem whole_first {a : UInt8} {t : List UInt8} (h : Whole (a :: t)) : ¬ contB a := by
  obtain ⟨cs, hk, he⟩ := h
  cases cs with
  | nil => cases he
  | cons c cs =>
    obtain ⟨b, u, h1, h2, _⟩ := enc_first (hk c (by simp))
    rw [List.map_cons, List.flatten_cons, h1] at he
    simp only [List.cons_append, List.cons.injEq] at he
    rw [he.1]
    exact h2
theorem whole_split {x y : List UInt8} (h : Whole (x ++ y)) (hy : ∀ a t, y = a :: t → ¬ contB a) : Whole x ∧ Whole y := by
  obtain ⟨cs, hk, he⟩ := h
  rcases whole_cut cs x y hk he.symm with h | ⟨w, p, q, c, r, h3, h4, h5, h6, h7, h8⟩
  · exact h
  · cases q with
    | nil => exact absurd rfl h7
    | cons b q => exact absurd (part_cont h4 h5 h6 b (by simp)) (hy b (q ++ r) h8)
theorem whole_rest (cs : List Nat) : ∀ y, (∀ c ∈ cs, okC c) → Whole ((cs.map encN).flatten ++ y) → Whole y := by
  induction cs with
  | nil => intro y _ h; exact h
  | cons c cs ih =>
    intro y hk h
    rw [List.map_cons, List.flatten_cons, List.append_assoc] at h
    obtain ⟨ds, hd, he⟩ := h
    have hc := hk c (by simp)
    refine ih y (fun d hd => hk d (by simp [hd])) ?_
    cases ds with
    | nil =>
      have := congrArg List.length he
      have h1 := (encN_len c).1
      rw [List.length_append] at this
      simp only [List.map_nil, List.flatten_nil, List.length_nil] at this
      omega
    | cons d ds =>
      rw [List.map_cons, List.flatten_cons] at he
      have h1 := congrArg decL he
      rw [dec_enc hc, dec_enc (hd d (by simp))] at h1
      injection h1 with h1 _
      subst h1
      exact ⟨ds, fun e he => hd e (by simp [he]), List.append_cancel_left he⟩
theorem tailR_pos (a : List UInt8) : ∀ R, 0 < tailR a R → begL (a.drop (a.length - tailR a R)) = true := by
  intro R
  induction R with
  | zero => intro h; simp [tailR] at h
  | succ R ih =>
    simp only [tailR]
    split
    · rename_i h; intro _; exact h
    · exact ih
theorem tailR_zero (a : List UInt8) : ∀ R, tailR a R = 0 → ∀ k, 0 < k → k ≤ R → begL (a.drop (a.length - k)) = false := by
  intro R
  induction R with
  | zero => intro _ k h1 h2; omega
  | succ R ih =>
    simp only [tailR]
    split
    · intro h; omega
    · rename_i hn
      intro h k h1 h2
      rcases Nat.lt_or_ge k (R + 1) with h3 | h3
      · exact ih h k h1 (by omega)
      · obtain rfl : k = R + 1 := by omega
        simpa using hn
theorem hold1_mem (t s : List UInt8) (h : Nat) : ∀ K, hold1 t s h K = h ∨ (sfx t (s.take (hold1 t s h K)) = true ∧ hold1 t s h K ≤ K) := by
  intro K
  induction K with
  | zero => exact .inl rfl
  | succ K ih =>
    simp only [hold1]
    split
    · exact .inl rfl
    · split
      · rename_i h2; exact .inr ⟨h2, Nat.le_refl _⟩
      · rcases ih with h | ⟨h3, h4⟩
        · exact .inl h
        · exact .inr ⟨h3, by omega⟩
theorem holdF_mem (t : List UInt8) : ∀ (sts : List (List UInt8)) (h : Nat), sts.foldl (fun h s => hold1 t s h (min (s.length - 1) t.length)) h = h ∨ ∃ s ∈ sts, sfx t (s.take (sts.foldl (fun h s => hold1 t s h (min (s.length - 1) t.length)) h)) = true ∧ sts.foldl (fun h s => hold1 t s h (min (s.length - 1) t.length)) h ≤ s.length - 1 := by
  intro sts
  induction sts with
  | nil => intro h; exact .inl rfl
  | cons x r ih =>
    intro h
    rw [List.foldl_cons]
    rcases ih (hold1 t x h (min (x.length - 1) t.length)) with h1 | ⟨s, hm, h1, h2⟩
    · rw [h1]
      rcases hold1_mem t x h (min (x.length - 1) t.length) with h2 | ⟨h2, h3⟩
      · exact .inl h2
      · exact .inr ⟨x, by simp, h2, by omega⟩
    · exact .inr ⟨s, by simp [hm], h1, h2⟩
theorem sfx_drop {t s : List UInt8} (h : sfx t s = true) : s = t.drop (t.length - s.length) := List.suffix_iff_eq_drop.1 (sfx_iff.1 h)
/-- what waits begins where a rune begins -/
theorem keep_whole {sts : List (List UInt8)} (hw : ∀ s ∈ sts, Whole s) {tl f : List UInt8} (h : Whole (tl ++ f)) : Whole (tl.take (tl.length - waitsL sts tl)) ∧ Whole (tl.drop (tl.length - waitsL sts tl) ++ f) := by
  have h' := h
  rw [← List.take_append_drop (tl.length - waitsL sts tl) tl, List.append_assoc] at h'
  have hle := waitsL_le sts tl
  obtain ⟨hh, hhe⟩ : ∃ hh, holdL sts tl = hh := ⟨_, rfl⟩
  have hhl := holdL_le tl sts
  obtain ⟨r, hre⟩ : ∃ r, tailR (tl.take (tl.length - holdL sts tl)) (min 3 (tl.length - holdL sts tl)) = r := ⟨_, rfl⟩
  have hrl := tailR_le (tl.take (tl.length - holdL sts tl)) (min 3 (tl.length - holdL sts tl))
  have hwe : waitsL sts tl = hh + r := by unfold waitsL; rw [hre, hhe]
  have hal : (tl.take (tl.length - holdL sts tl)).length = tl.length - hh := by rw [List.length_take, hhe]; omega
  rw [hre] at hrl
  rw [hhe] at hhl
  by_cases hr0 : 0 < r
  · refine whole_split h' (fun a t he => ?_)
    have h1 := tailR_pos _ _ (by rw [hre]; exact hr0)
    rw [hre, hal, hhe] at h1
    obtain ⟨y, hy⟩ : ∃ y, (tl.take (tl.length - hh)).drop (tl.length - hh - r) = y := ⟨_, rfl⟩
    have hye : tl.drop (tl.length - waitsL sts tl) = y ++ tl.drop (tl.length - hh) := by
      rw [hwe, ← hy, List.drop_take, show tl.length - hh - (tl.length - hh - r) = r by omega, show tl.length - hh - r = tl.length - (hh + r) by omega]
      have e := (List.take_append_drop r (tl.drop (tl.length - (hh + r)))).symm
      rw [List.drop_drop, show tl.length - (hh + r) + r = tl.length - hh by omega] at e
      exact e
    have hyl : y.length = r := by rw [← hy, List.length_drop, List.length_take]; omega
    rw [hy] at h1
    cases y with
    | nil => simp at hyl; omega
    | cons b y =>
      obtain ⟨c, z, hc, _, hz⟩ := begL_some (by simp) h1
      rw [hye] at he
      simp only [List.cons_append, List.cons.injEq] at he
      rw [← he.1]
      exact part_first hc hz
  · obtain rfl : r = 0 := by omega
    by_cases hh0 : 0 < hh
    · refine whole_split h' (fun a t he => ?_)
      rcases holdF_mem tl sts 0 with h1 | ⟨s, hs, h1, h2⟩
      · have : hh = 0 := by rw [← hhe]; exact h1
        omega
      · have h3 : sfx tl (s.take hh) = true := by rw [← hhe]; exact h1
        have h4 : hh ≤ s.length - 1 := by rw [← hhe]; exact h2
        have h5 := sfx_drop h3
        rw [List.length_take, show min hh s.length = hh by omega] at h5
        rw [hwe, Nat.add_zero, ← h5] at he
        cases s with
        | nil => simp at h4; omega
        | cons b s =>
          obtain ⟨m, rfl⟩ : ∃ m, hh = m + 1 := ⟨hh - 1, by omega⟩
          rw [List.take_succ_cons] at he
          simp only [List.cons_append, List.cons.injEq] at he
          rw [← he.1]
          exact whole_first (hw _ hs)
    · obtain rfl : hh = 0 := by omega
      rw [hwe, Nat.add_zero, Nat.sub_zero, List.take_length, List.drop_length, List.nil_append] at h' ⊢
      obtain ⟨cs, hk, he⟩ := h'
      rcases whole_cut cs tl f hk he.symm with h | ⟨w, p, q, c, r, h3, h4, h5, h6, h7, h8⟩
      · exact h
      · exfalso
        rw [hhe, Nat.sub_zero, List.take_length] at hre
        have hpl := List.length_pos_iff.2 h6
        have hql := List.length_pos_iff.2 h7
        have hcl := (encN_len c).2
        rw [h5, List.length_append] at hcl
        have h9 := tailR_zero _ _ hre p.length hpl (by rw [h3, List.length_append]; omega)
        have h10 : tl.drop (tl.length - p.length) = p := by
          rw [h3, List.length_append, Nat.add_sub_cancel, List.drop_left]
        rw [h10, begL_part h4 h5 h6 h7] at h9
        cases h9
/-- what holds of a stream ahead of further bytes -/
def RunI (s : S3) (f : List UInt8) : Prop := ∃ o, s.2.1 = bI o ∧ Whole o ∧ (s.2.2 = false → Whole (s.1 ++ f))
theorem runI_step {sts : List (List UInt8)} (hw : ∀ s ∈ sts, Whole s) {s : S3} {b : UInt8} {f : List UInt8} (h : RunI s (b :: f)) : RunI (stepU sts s b) f := by
  obtain ⟨o, ho, hwo, hF⟩ := h
  cases h0 : s.2.2 with
  | true =>
    rw [stepU_over sts s b h0]
    exact ⟨o, ho, hwo, fun h => (by rw [h0] at h; cases h)⟩
  | false =>
    have hz := hF h0
    unfold stepU
    rw [if_neg (by rw [h0]; simp)]
    obtain ⟨tl, htl⟩ : ∃ tl, s.1 ++ [b] = tl := ⟨_, rfl⟩
    rw [show s.1 ++ b :: f = tl ++ f by rw [← htl]; simp] at hz
    rw [htl]
    split
    · rename_i hg
      have hll := longest_le tl sts
      have hsp : Whole (tl.take (tl.length - longest sts tl)) := by
        rcases longest_mem tl sts 0 with h | ⟨x, hx, hs, hxl⟩
        · exact absurd h (by unfold longest at hg; omega)
        · have hxl' : x.length = longest sts tl := hxl
          have hxe := sfx_drop hs
          rw [hxl'] at hxe
          rw [← List.take_append_drop (tl.length - longest sts tl) tl, List.append_assoc, ← hxe] at hz
          refine (whole_split hz (fun a t he => ?_)).1
          cases x with
          | nil => simp at hxl'; omega
          | cons c x =>
            simp only [List.cons_append, List.cons.injEq] at he
            rw [← he.1]
            exact whole_first (hw _ hx)
      exact ⟨o ++ tl.take (tl.length - longest sts tl), by dsimp only; rw [ho, bI_append], hwo.append hsp, fun h => by cases h⟩
    · have hk := keep_whole hw hz
      exact ⟨o ++ tl.take (tl.length - waitsL sts tl), by dsimp only; rw [ho, bI_append], hwo.append hk.1, fun _ => hk.2⟩
theorem runI_bytes {sts : List (List UInt8)} (hw : ∀ s ∈ sts, Whole s) (l : List Int) : ∀ (s : S3) (f : List UInt8), RunI s (l.map u8 ++ f) → RunI (bytesU sts s l) f := by
  induction l with
  | nil => intro s f h; exact h
  | cons x l ih =>
    intro s f h
    exact ih _ f (runI_step hw h)
theorem runI_feed {sts : List (List UInt8)} (hw : ∀ s ∈ sts, Whole s) (wds : List (List Int)) (l : List Int) : ∀ (s : S3) (f : List UInt8), (∀ x ∈ l, 1 ≤ x) → RunI s ((cameU wds l).map u8 ++ f) → RunI (feedU sts wds s l) f := by
  induction l with
  | nil => intro s f _ h; exact h
  | cons k l ih =>
    intro s f hk h
    have hk1 := hk k (by simp)
    have et : tokU sts wds s k.toNat = bytesU sts s (wds.getD k.toNat []) := by unfold tokU; rw [if_neg (by omega)]
    have e : cameU wds (k :: l) = wds.getD k.toNat [] ++ cameU wds l := by simp [cameU]
    rw [e, List.map_append, List.append_assoc] at h
    have := ih (tokU sts wds s k.toNat) f (fun y hy => hk y (List.mem_cons_of_mem _ hy)) (by rw [et]; exact runI_bytes hw (wds.getD k.toNat []) s _ h)
    exact this
end Go.Proofs.Ytcambbnmeiolgaa
namespace Go.Proofs.Ytcambbnmeiolgaa
open Go.RowKit
/-! A stream by its whole text: what waits of what was kept is what waits of all that came -/
theorem sfx_same {t c s : List UInt8} (ht : t <:+ c) (h : s <:+ c → s.length ≤ t.length) : sfx t s = sfx c s := by
  rw [Bool.eq_iff_iff, sfx_iff, sfx_iff]
  exact ⟨fun h1 => h1.trans ht, fun h1 => List.suffix_of_suffix_length_le h1 ht (h h1)⟩
theorem hold1_same {t c s : List UInt8} {h : Nat} (ht : t <:+ c) (hk : ∀ k, k ≤ s.length → s.take k <:+ c → k ≤ t.length) : ∀ K', K' ≤ s.length → K' ≤ c.length → hold1 t s h (min K' t.length) = hold1 c s h K' := by
  intro K'
  induction K' with
  | zero => intro _ _; rw [Nat.zero_min]; rfl
  | succ K ih =>
    intro h1 h2
    have hi := ih (by omega) (by omega)
    by_cases hle : K + 1 ≤ h
    · rw [hold1_done (by omega), hold1_done hle]
    · rcases Nat.lt_or_ge t.length (K + 1) with h3 | h3
      · have hf : sfx c (s.take (K + 1)) = false := by
          cases hq : sfx c (s.take (K + 1)) with
          | false => rfl
          | true => have := hk (K + 1) h1 (sfx_iff.1 hq); omega
        rw [hold1_no (by omega) hf, Nat.add_sub_cancel, ← hi]
        congr 1
        omega
      · have hs := sfx_same (s := s.take (K + 1)) ht (fun _ => by rw [List.length_take]; omega)
        rw [Nat.min_eq_left h3]
        cases hq : sfx c (s.take (K + 1)) with
        | true => rw [hold1_yes (by omega) (hs.trans hq), hold1_yes (by omega) hq]
        | false =>
          rw [hold1_no (by omega) (hs.trans hq), hold1_no (by omega) hq, Nat.add_sub_cancel, ← hi]
          congr 1
          omega
theorem holdL_same {t c : List UInt8} (ht : t <:+ c) : ∀ (sts : List (List UInt8)) (h : Nat), (∀ s ∈ sts, ∀ k, k ≤ s.length → s.take k <:+ c → k ≤ t.length) → sts.foldl (fun h s => hold1 t s h (min (s.length - 1) t.length)) h = sts.foldl (fun h s => hold1 c s h (min (s.length - 1) c.length)) h := by
  intro sts
  induction sts with
  | nil => intro h _; rfl
  | cons s r ih =>
    intro h hk
    rw [List.foldl_cons, List.foldl_cons, ih _ (fun x hx => hk x (by simp [hx]))]
    congr 1
    have := hold1_same (h := h) ht (hk s (by simp)) (min (s.length - 1) c.length) (by omega) (by omega)
    rw [← this]
    congr 1
    have := ht.length_le
    omega
theorem longest_same {t c : List UInt8} (ht : t <:+ c) : ∀ (sts : List (List UInt8)) (g : Nat), (∀ s ∈ sts, s <:+ c → s.length ≤ t.length) → sts.foldl (fun g s => if sfx t s then max g s.length else g) g = sts.foldl (fun g s => if sfx c s then max g s.length else g) g := by
  intro sts
  induction sts with
  | nil => intro g _; rfl
  | cons s r ih =>
    intro g hk
    rw [List.foldl_cons, List.foldl_cons, ih _ (fun x hx => hk x (by simp [hx])), sfx_same ht (hk s (by simp))]
/-- a beginning's beginning is one -/
theorem begL_pre {x y : List UInt8} (h : begL (x ++ y) = true) (hx : x ≠ []) : begL x = true := by
  obtain ⟨c, z, hc, hz, he⟩ := begL_some (by simp [hx]) h
  exact begL_part hc (y := y ++ z) (by rw [he, List.append_assoc]) hx (by simp [hz])
theorem tailR_same {a b : List UInt8} {R R' : Nat} (hR : R ≤ R') (h1 : ∀ r, 0 < r → r ≤ R → begL (a.drop (a.length - r)) = begL (b.drop (b.length - r))) (h2 : ∀ r, R < r → r ≤ R' → begL (b.drop (b.length - r)) = false) : tailR a R = tailR b R' := by
  induction R' with
  | zero =>
    obtain rfl : R = 0 := by omega
    rfl
  | succ K ih =>
    rcases Nat.lt_or_ge R (K + 1) with h3 | h3
    · rw [tailR_no (by omega) (h2 (K + 1) (by omega) (Nat.le_refl _)), Nat.add_sub_cancel]
      exact ih (by omega) (fun r h4 h5 => h2 r h4 (by omega))
    · obtain rfl : R = K + 1 := by omega
      clear ih h2 h3 hR
      induction K with
      | zero =>
        simp only [tailR]
        rw [h1 1 (by omega) (by omega)]
      | succ K ih =>
        rw [show tailR a (K + 1 + 1) = if begL (a.drop (a.length - (K + 1 + 1))) then K + 1 + 1 else tailR a (K + 1) from rfl, show tailR b (K + 1 + 1) = if begL (b.drop (b.length - (K + 1 + 1))) then K + 1 + 1 else tailR b (K + 1) from rfl]
        rw [h1 _ (by omega) (Nat.le_refl _), ih (fun r h4 h5 => h1 r h4 (by omega))]
/-- what holds of a stream that is not over: it keeps what of all that came lies from g on -/
structure RefI (sts : List (List UInt8)) (tl : List UInt8) (g : Nat) (came : List UInt8) : Prop where
  dr : came.drop g = tl
  le : g ≤ came.length
  k1 : ∀ x ∈ sts, ∀ k, k ≤ x.length → x.take k <:+ came → k ≤ tl.length
  k2 : ∀ r, 0 < r → r ≤ 3 → r ≤ came.length - holdL sts came → came.length - holdL sts came - r < g → begL ((came.take (came.length - holdL sts came)).drop (came.length - holdL sts came - r)) = false
theorem refI_zero (sts : List (List UInt8)) : RefI sts [] 0 [] :=
  ⟨rfl, Nat.le_refl _, fun x _ k _ h => by have := h.length_le; rw [List.length_take, List.length_nil] at this; have : min k x.length = k := by omega
                                           simp only [List.length_nil]; omega, fun r _ _ h => by simp at h; omega⟩
theorem refI_k1 {sts : List (List UInt8)} {tl came : List UInt8} {g : Nat} (h : RefI sts tl g came) (b : UInt8) : ∀ x ∈ sts, ∀ k, k ≤ x.length → x.take k <:+ came ++ [b] → k ≤ (tl ++ [b]).length := by
  intro x hx k hk hs
  rw [List.length_append, List.length_singleton]
  rcases Nat.eq_zero_or_pos k with h0 | h0
  · omega
  · obtain ⟨m, rfl⟩ : ∃ m, k = m + 1 := ⟨k - 1, by omega⟩
    have := h.k1 x hx m (by omega) (sfx_snoc (by omega) hs)
    omega
theorem refI_sfx {sts : List (List UInt8)} {tl came : List UInt8} {g : Nat} (h : RefI sts tl g came) (b : UInt8) : tl ++ [b] <:+ came ++ [b] := by
  refine ⟨came.take g, ?_⟩
  rw [← List.append_assoc, ← h.dr, List.take_append_drop]
theorem refI_longest {sts : List (List UInt8)} {tl came : List UInt8} {g : Nat} (h : RefI sts tl g came) (b : UInt8) : longest sts (tl ++ [b]) = longest sts (came ++ [b]) :=
  longest_same (refI_sfx h b) sts 0 (fun s hs h1 => refI_k1 h b s hs s.length (Nat.le_refl _) (by rw [List.take_length]; exact h1))
theorem refI_hold {sts : List (List UInt8)} {tl came : List UInt8} {g : Nat} (h : RefI sts tl g came) (b : UInt8) : holdL sts (tl ++ [b]) = holdL sts (came ++ [b]) :=
  holdL_same (refI_sfx h b) sts 0 (refI_k1 h b)
/-- the hold grows by one at most -/
theorem hold_grow {sts : List (List UInt8)} (came : List UInt8) (b : UInt8) : holdL sts (came ++ [b]) ≤ holdL sts came + 1 := by
  rcases holdF_mem (came ++ [b]) sts 0 with h | ⟨s, hs, h1, h2⟩
  · have : holdL sts (came ++ [b]) = 0 := h
    omega
  · obtain ⟨hh, hhe⟩ : ∃ hh, holdL sts (came ++ [b]) = hh := ⟨_, rfl⟩
    have h1' : sfx (came ++ [b]) (s.take hh) = true := by rw [← hhe]; exact h1
    have h2' : hh ≤ s.length - 1 := by rw [← hhe]; exact h2
    rw [hhe]
    rcases Nat.eq_zero_or_pos hh with h0 | h0
    · omega
    · obtain ⟨m, rfl⟩ : ∃ m, hh = m + 1 := ⟨hh - 1, by omega⟩
      have h3 := sfx_snoc (by omega) (sfx_iff.1 h1')
      have h4 := h3.length_le
      rw [List.length_take] at h4
      have h5 : m ≤ holdL sts came := holdL_ge (sfx_iff.2 h3) (by omega) (by omega) sts 0 hs
      omega
theorem refI_step {sts : List (List UInt8)} {tl came : List UInt8} {g : Nat} (h : RefI sts tl g came) (b : UInt8) (hno : longest sts (tl ++ [b]) = 0) (hpos : ∀ x ∈ sts, 1 ≤ x.length) :
    waitsL sts (tl ++ [b]) = waitsL sts (came ++ [b]) ∧ RefI sts ((tl ++ [b]).drop ((tl ++ [b]).length - waitsL sts (tl ++ [b]))) ((came ++ [b]).length - waitsL sts (came ++ [b])) (came ++ [b]) := by
  have hsf := refI_sfx h b
  have hk1 := refI_k1 h b
  have hho := refI_hold h b
  have hgr := hold_grow (sts := sts) came b
  have hle0 := holdL_le came sts
  have hle1 := holdL_le (came ++ [b]) sts
  have hle2 := holdL_le (tl ++ [b]) sts
  have hlt : tl.length = came.length - g := by rw [← h.dr, List.length_drop]
  have hgl := h.le
  obtain ⟨H, hH⟩ : ∃ H, holdL sts (came ++ [b]) = H := ⟨_, rfl⟩
  obtain ⟨H0, hH0⟩ : ∃ H0, holdL sts came = H0 := ⟨_, rfl⟩
  have hk2 := h.k2
  rw [hH0] at hk2 hgr hle0
  rw [hH] at hho hgr hle1
  rw [hho] at hle2
  simp only [List.length_append, List.length_singleton] at hle1 hle2
  have hH0t : H0 ≤ tl.length := by
    rcases holdF_mem came sts 0 with h1 | ⟨x, hx, h1, h2⟩
    · have : holdL sts came = 0 := h1
      omega
    · have h1' : sfx came (x.take H0) = true := by rw [← hH0]; exact h1
      have h2' : H0 ≤ x.length - 1 := by rw [← hH0]; exact h2
      exact h.k1 x hx H0 (by omega) (sfx_iff.1 h1')
  -- no rune's beginning reaches ahead of what was kept
  have far : ∀ r, 0 < r → r ≤ 3 → r ≤ came.length + 1 - H → came.length + 1 - H - r < g → begL (((came ++ [b]).take (came.length + 1 - H)).drop (came.length + 1 - H - r)) = false := by
    intro r r0 r3 rl rg
    cases hq : begL (((came ++ [b]).take (came.length + 1 - H)).drop (came.length + 1 - H - r)) with
    | false => rfl
    | true =>
      exfalso
      rcases Nat.lt_or_ge (came.length + 1 - H - r) (came.length - H0) with h3 | h3
      · have h4 := hk2 (came.length - H0 - (came.length + 1 - H - r)) (by omega) (by omega) (by omega) (by omega)
        rw [show came.length - H0 - (came.length - H0 - (came.length + 1 - H - r)) = came.length + 1 - H - r by omega] at h4
        have e : ((came ++ [b]).take (came.length + 1 - H)).drop (came.length + 1 - H - r) = (came.take (came.length - H0)).drop (came.length + 1 - H - r) ++ ((came ++ [b]).take (came.length + 1 - H)).drop (came.length - H0) := by
          have e2 := List.take_append_drop (came.length - H0) ((came ++ [b]).take (came.length + 1 - H))
          have e3 : ((came ++ [b]).take (came.length + 1 - H)).take (came.length - H0) = came.take (came.length - H0) := by rw [List.take_take, Nat.min_eq_left (by omega), List.take_append_of_le_length (by omega)]
          rw [e3] at e2
          have e4 := congrArg (List.drop (came.length + 1 - H - r)) e2
          rw [List.drop_append_of_le_length (by rw [List.length_take]; omega)] at e4
          exact e4.symm
        rw [e] at hq
        rw [begL_pre hq (by intro hn; have := congrArg List.length hn; rw [List.length_drop, List.length_take, List.length_nil] at this; omega)] at h4
        cases h4
      · omega
  have hte : (tl ++ [b]).length = came.length + 1 - g := by rw [List.length_append, List.length_singleton]; omega
  have hdr : (came ++ [b]).drop g = tl ++ [b] := by rw [List.drop_append_of_le_length hgl, h.dr]
  -- what waits of the tail is what waits of all
  have htl : tailR ((tl ++ [b]).take ((tl ++ [b]).length - H)) (min 3 ((tl ++ [b]).length - H)) = tailR ((came ++ [b]).take (came.length + 1 - H)) (min 3 (came.length + 1 - H)) := by
    have l1 : ((tl ++ [b]).take ((tl ++ [b]).length - H)).length = came.length + 1 - g - H := by rw [List.length_take, hte]; omega
    have l2 : ((came ++ [b]).take (came.length + 1 - H)).length = came.length + 1 - H := by rw [List.length_take, List.length_append, List.length_singleton]; omega
    refine tailR_same (by omega) (fun r r0 r1 => ?_) (fun r r0 r1 => ?_)
    · rw [l1, l2, ← hdr, List.take_drop, List.drop_drop, List.length_drop, List.length_append, List.length_singleton]
      congr 2
      · omega
      · congr 1
        omega
    · rw [l2]
      rw [hte] at r0
      exact far r (by omega) (by omega) (by omega) (by omega)
  have hw : waitsL sts (tl ++ [b]) = waitsL sts (came ++ [b]) := by
    unfold waitsL
    rw [hho, hH, htl, show (came ++ [b]).length = came.length + 1 by rw [List.length_append, List.length_singleton]]
  refine ⟨hw, ?_⟩
  have hwl := waitsL_le sts (tl ++ [b])
  rw [hte] at hwl
  have hwc : waitsL sts (came ++ [b]) ≤ came.length + 1 - g := by rw [← hw]; exact hwl
  rw [hw]
  obtain ⟨W, hW⟩ : ∃ W, waitsL sts (came ++ [b]) = W := ⟨_, rfl⟩
  have hWd : W = H + tailR ((came ++ [b]).take (came.length + 1 - H)) (min 3 (came.length + 1 - H)) := by
    rw [← hW]
    unfold waitsL
    rw [hH, List.length_append, List.length_singleton]
  rw [hW] at hwc ⊢
  refine ⟨?_, by omega, ?_, ?_⟩
  · rw [← hdr, List.drop_drop, List.length_drop, List.length_append, List.length_singleton]
    congr 1
    omega
  · intro x hx k hk hs
    rw [List.length_drop, hte]
    have h1 := hk1 x hx k hk hs
    rcases Nat.lt_or_ge k x.length with h2 | h2
    · have h3 : k ≤ holdL sts (came ++ [b]) := holdL_ge (sfx_iff.2 hs) (by omega) (by have := hs.length_le; rw [List.length_take] at this; omega) sts 0 hx
      omega
    · obtain rfl : k = x.length := by omega
      rw [List.take_length] at hs
      have h4 := longest_ge (sfx_iff.2 hs) sts 0 hx
      have h5 : longest sts (came ++ [b]) = 0 := by rw [← refI_longest h b]; exact hno
      unfold longest at h5
      have := hpos x hx
      omega
  · intro r r0 r3 rl rg
    rw [hH] at rl rg ⊢
    simp only [List.length_append, List.length_singleton] at rl rg ⊢
    rcases Nat.lt_or_ge (came.length + 1 - H - r) g with h2 | h2
    · exact far r r0 r3 rl h2
    · cases hq : begL (((came ++ [b]).take (came.length + 1 - H)).drop (came.length + 1 - H - r)) with
      | false => rfl
      | true =>
        exfalso
        have l2 : ((came ++ [b]).take (came.length + 1 - H)).length = came.length + 1 - H := by rw [List.length_take, List.length_append, List.length_singleton]; omega
        have hmax : ∀ R, r ≤ R → r ≤ tailR ((came ++ [b]).take (came.length + 1 - H)) R := by
          intro R
          induction R with
          | zero => intro h; omega
          | succ R ih =>
            intro hr
            simp only [tailR]
            split
            · omega
            · rename_i hnb
              rcases Nat.lt_or_ge r (R + 1) with h3 | h3
              · exact ih (by omega)
              · obtain rfl : r = R + 1 := by omega
                rw [l2] at hnb
                exact absurd hq hnb
        have := hmax (min 3 (came.length + 1 - H)) (by omega)
        omega
end Go.Proofs.Ytcambbnmeiolgaa
namespace Go.Proofs.Ytcambbnmeiolgaa
open Go.RowKit
/-! The reference's between, second, Begins -/
def btwI (x lo hi : Int) : Bool := decide (lo ≤ x ∧ x ≤ hi)
def secI (a b : Int) : Bool := if a = 224 then btwI b 160 191 else if a = 237 then btwI b 128 159 else if a = 240 then btwI b 144 191 else if a = 244 then btwI b 128 143 else btwI b 128 191
set_option maxRecDepth 100000 in
theorem between_any (x lo hi : Int) (w : World) : Calls Try.prog 73 #[.int .u8 x, .int .u8 lo, .int .u8 hi] w fun e w' => e = .returned (.bool (btwI x lo hi)) ∧ w = w' := by
  by_cases h1 : lo ≤ x
  · by_cases h2 : x ≤ hi
    · have HB := Lib.hid (show btwI x lo hi = true from decide_eq_true ⟨h1, h2⟩)
      go_enter Try.func73, Try.ntmps73
      go_wp2
      go_returns
      exact ⟨by rw [HB.out]; first | rfl | simp [h2], rfl⟩
    · have HB := Lib.hid (show btwI x lo hi = false from decide_eq_false (fun h => h2 h.2))
      go_enter Try.func73, Try.ntmps73
      go_wp2
      go_returns
      exact ⟨by rw [HB.out]; first | rfl | simp; omega, rfl⟩
  · have HB := Lib.hid (show btwI x lo hi = false from decide_eq_false (fun h => h1 h.1))
    go_enter Try.func73, Try.ntmps73
    go_wp2
    go_returns
    exact ⟨by rw [HB.out]; first | rfl | simp; omega, rfl⟩
set_option maxRecDepth 100000 in
theorem second_any (a b : Int) (w : World) : Calls Try.prog 74 #[.int .u8 a, .int .u8 b] w fun e w' => e = .returned (.bool (secI a b)) ∧ w = w' := by
  have HB := Lib.hid (show secI a b = _ from rfl)
  by_cases h1 : a = 224
  · have H := Lib.hid (show secI a b = btwI b 160 191 by unfold secI; rw [if_pos h1])
    clear HB
    go_enter Try.func74, Try.ntmps74
    go_wp2_with fail
    refine (between_any _ _ _ _).mono ?_
    rintro e w1 ⟨rfl, rfl⟩
    go_wp2
    go_returns
    exact ⟨by rw [H.out]; rfl, rfl⟩
  · by_cases h2 : a = 237
    · have H := Lib.hid (show secI a b = btwI b 128 159 by unfold secI; rw [if_neg h1, if_pos h2])
      clear HB
      go_enter Try.func74, Try.ntmps74
      go_wp2_with fail
      refine (between_any _ _ _ _).mono ?_
      rintro e w1 ⟨rfl, rfl⟩
      go_wp2
      go_returns
      exact ⟨by rw [H.out]; rfl, rfl⟩
    · by_cases h3 : a = 240
      · have H := Lib.hid (show secI a b = btwI b 144 191 by unfold secI; rw [if_neg h1, if_neg h2, if_pos h3])
        clear HB
        go_enter Try.func74, Try.ntmps74
        go_wp2_with fail
        refine (between_any _ _ _ _).mono ?_
        rintro e w1 ⟨rfl, rfl⟩
        go_wp2
        go_returns
        exact ⟨by rw [H.out]; rfl, rfl⟩
      · by_cases h4 : a = 244
        · have H := Lib.hid (show secI a b = btwI b 128 143 by unfold secI; rw [if_neg h1, if_neg h2, if_neg h3, if_pos h4])
          clear HB
          go_enter Try.func74, Try.ntmps74
          go_wp2_with fail
          refine (between_any _ _ _ _).mono ?_
          rintro e w1 ⟨rfl, rfl⟩
          go_wp2
          go_returns
          exact ⟨by rw [H.out]; rfl, rfl⟩
        · have H := Lib.hid (show secI a b = btwI b 128 191 by unfold secI; rw [if_neg h1, if_neg h2, if_neg h3, if_neg h4])
          clear HB
          go_enter Try.func74, Try.ntmps74
          go_wp2_with fail
          refine (between_any _ _ _ _).mono ?_
          rintro e w1 ⟨rfl, rfl⟩
          go_wp2
          go_returns
          exact ⟨by rw [H.out]; rfl, rfl⟩
end Go.Proofs.Ytcambbnmeiolgaa
namespace Go.Proofs.Ytcambbnmeiolgaa
open Go.RowKit
def widI (a : Int) : Nat := if btwI a 194 223 then 2 else if btwI a 224 239 then 3 else if btwI a 240 244 then 4 else 0
/-- the reference's Begins -/
def begI : List Int → Bool
  | [] => false
  | a :: t => decide (t.length + 1 < widI a) && (t.all (btwI · 128 191) && (t.head?.all (secI a ·)))
theorem wid_cases (a : Int) : (btwI a 194 223 = true ∧ btwI a 224 239 = false ∧ btwI a 240 244 = false ∧ widI a = 2) ∨ (btwI a 194 223 = false ∧ btwI a 224 239 = true ∧ btwI a 240 244 = false ∧ widI a = 3) ∨ (btwI a 194 223 = false ∧ btwI a 224 239 = false ∧ btwI a 240 244 = true ∧ widI a = 4) ∨ (btwI a 194 223 = false ∧ btwI a 224 239 = false ∧ btwI a 240 244 = false ∧ widI a = 0) := by
  unfold widI
  cases h1 : btwI a 194 223 <;> cases h2 : btwI a 224 239 <;> cases h3 : btwI a 240 244 <;> simp_all [btwI] <;> omega
theorem begI_u8 {l : List Int} (hr : ∀ x ∈ l, 0 ≤ x ∧ x < 256) : begI l = true ↔ BegR (l.map u8) := by
  have hu : ∀ x : Int, 0 ≤ x ∧ x < 256 → ((u8 x).toNat : Int) = x := by
    intro x hx
    unfold u8
    rw [UInt8.toNat_ofNat']
    omega
  have hb : ∀ (x : Int) (lo hi : Nat), 0 ≤ x ∧ x < 256 → (btwI x lo hi = true ↔ btw (u8 x) lo hi) := by
    intro x lo hi hx
    have := hu x hx
    unfold btwI btw
    rw [decide_eq_true_eq]
    omega
  cases l with
  | nil => simp [begI, BegR]
  | cons a t =>
    have ha := hr a (by simp)
    have hw : widI a = widR (u8 a) := by
      unfold widI widR
      have e1 : btwI a 194 223 = true ↔ btw (u8 a) 0xc2 0xdf := hb a 0xc2 0xdf ha
      have e2 : btwI a 224 239 = true ↔ btw (u8 a) 0xe0 0xef := hb a 0xe0 0xef ha
      have e3 : btwI a 240 244 = true ↔ btw (u8 a) 0xf0 0xf4 := hb a 0xf0 0xf4 ha
      by_cases c1 : btw (u8 a) 0xc2 0xdf
      · rw [if_pos c1, if_pos (e1.2 c1)]
      · rw [if_neg c1, if_neg (fun h => c1 (e1.1 h))]
        by_cases c2 : btw (u8 a) 0xe0 0xef
        · rw [if_pos c2, if_pos (e2.2 c2)]
        · rw [if_neg c2, if_neg (fun h => c2 (e2.1 h))]
          by_cases c3 : btw (u8 a) 0xf0 0xf4
          · rw [if_pos c3, if_pos (e3.2 c3)]
          · rw [if_neg c3, if_neg (fun h => c3 (e3.1 h))]
    have hs : ∀ b, 0 ≤ b ∧ b < 256 → (secI a b = true ↔ secR (u8 a) (u8 b)) := by
      intro b hbr
      have hua := hu a ha
      unfold secI secR
      have k1 : (a = 224) = ((u8 a).toNat = 0xe0) := by rw [eq_iff_iff]; omega
      have k2 : (a = 237) = ((u8 a).toNat = 0xed) := by rw [eq_iff_iff]; omega
      have k3 : (a = 240) = ((u8 a).toNat = 0xf0) := by rw [eq_iff_iff]; omega
      have k4 : (a = 244) = ((u8 a).toNat = 0xf4) := by rw [eq_iff_iff]; omega
      simp only [k1, k2, k3, k4]
      (repeat' split) <;> exact hb b _ _ hbr
    show (decide (t.length + 1 < widI a) && (t.all (btwI · 128 191) && (t.head?.all (secI a ·)))) = true ↔ ((t.map u8).length + 1 < widR (u8 a) ∧ (∀ x ∈ t.map u8, btw x 0x80 0xbf) ∧ ∀ b, (t.map u8).head? = some b → secR (u8 a) b)
    rw [Bool.and_eq_true, Bool.and_eq_true, decide_eq_true_eq, List.all_eq_true, List.length_map, hw]
    refine and_congr Iff.rfl (and_congr ⟨fun h x hx => ?_, fun h x hx => ?_⟩ ⟨fun h b hbh => ?_, fun h => ?_⟩)
    · obtain ⟨y, hy, rfl⟩ := List.mem_map.1 hx
      exact (hb y 128 191 (hr y (by simp [hy]))).1 (h y hy)
    · exact (hb x 128 191 (hr x (by simp [hx]))).2 (h _ (List.mem_map.2 ⟨x, hx, rfl⟩))
    · cases t with
      | nil => cases hbh
      | cons y t =>
        simp only [List.map_cons, List.head?_cons, Option.some.injEq] at hbh
        subst hbh
        exact (hs y (hr y (by simp))).1 (by simpa using h)
    · cases t with
      | nil => rfl
      | cons y t => simpa using (hs y (hr y (by simp))).2 (h (u8 y) rfl)
end Go.Proofs.Ytcambbnmeiolgaa
namespace Go.Proofs.Ytcambbnmeiolgaa
open Go.RowKit
/-! The reference's stream beside the program's, in plain Lean -/
/-- no stop string ends anywhere in what came -/
def noStop (sts : List (List UInt8)) (c : List UInt8) : Prop := ∀ n, n ≤ c.length → longest sts (c.take n) = 0
theorem longest_nil {sts : List (List UInt8)} : longest sts [] = 0 := by have := longest_le [] sts; simpa using this
theorem noStop_nil (sts : List (List UInt8)) : noStop sts [] := fun n _ => by rw [List.take_nil]; exact longest_nil
theorem noStop_step {sts : List (List UInt8)} {c : List UInt8} {b : UInt8} (h : noStop sts c) (h0 : longest sts (c ++ [b]) = 0) : noStop sts (c ++ [b]) := by
  intro n hn
  rw [List.length_append, List.length_singleton] at hn
  rcases Nat.lt_or_ge c.length n with h1 | h1
  · rw [List.take_of_length_le (by rw [List.length_append, List.length_singleton]; omega)]; exact h0
  · rw [List.take_append_of_le_length h1]; exact h n h1
structure RefB (sts : List (List UInt8)) (s : S3) (g0 : Nat) (c : List UInt8) (done : Bool) (long : Nat) : Prop where
  ov : s.2.2 = done
  go : done = false → RefI sts s.1 (c.length - waitsL sts c) c ∧ noStop sts c ∧ g0 ≤ c.length - waitsL sts c ∧ s.2.1 = bI ((c.take (c.length - waitsL sts c)).drop g0)
  st : done = true → g0 ≤ long ∧ long ≤ c.length ∧ s.2.1 = bI ((c.take long).drop g0)
theorem refB_zero (sts : List (List UInt8)) (long : Nat) : RefB sts ([], [], false) 0 [] false long := by
  refine ⟨rfl, fun _ => ⟨?_, noStop_nil sts, Nat.zero_le _, ?_⟩, fun h => by cases h⟩
  · have : ([] : List UInt8).length - waitsL sts [] = 0 := by simp
    rw [this]
    exact refI_zero sts
  · simp [bI]
theorem take_cat {α : Type} (c : List α) {g0 g m : Nat} (h : g0 ≤ g) (hg : g ≤ c.length) : (c.take g).drop g0 ++ (c.drop g).take m = (c.take (g + m)).drop g0 := by
  rw [List.take_add, List.drop_append_of_le_length (by rw [List.length_take]; omega)]
theorem refB_step {sts : List (List UInt8)} {s : S3} {g0 long : Nat} {c : List UInt8} (h : RefB sts s g0 c false long) (b : UInt8) (hpos : ∀ x ∈ sts, 1 ≤ x.length) (l2 : Nat) :
    (longest sts (c ++ [b]) = 0 → RefB sts (stepU sts s b) g0 (c ++ [b]) false l2) ∧ (0 < longest sts (c ++ [b]) → RefB sts (stepU sts s b) g0 (c ++ [b]) true ((c ++ [b]).length - longest sts (c ++ [b]))) := by
  obtain ⟨tl, out, ov⟩ := s
  have hov : ov = false := h.ov
  subst hov
  obtain ⟨hI, hn, hg, ho⟩ := h.go rfl
  dsimp only at hI ho
  have hw := waitsL_le sts c
  obtain ⟨g, hgd⟩ : ∃ g, c.length - waitsL sts c = g := ⟨_, rfl⟩
  rw [hgd] at hI hg ho
  have hgc : g ≤ c.length := by omega
  have hL := refI_longest hI b
  have hdr : (c ++ [b]).drop g = tl ++ [b] := by rw [List.drop_append_of_le_length hgc, hI.dr]
  have htl : (tl ++ [b]).length = c.length + 1 - g := by rw [← hdr, List.length_drop, List.length_append, List.length_singleton]
  have hcl : (c ++ [b]).length = c.length + 1 := by rw [List.length_append, List.length_singleton]
  have hcat : ∀ m, bI ((c.take g).drop g0) ++ bI ((tl ++ [b]).take m) = bI (((c ++ [b]).take (g + m)).drop g0) := by
    intro m
    rw [← bI_append, ← hdr, ← take_cat (c ++ [b]) hg (by omega), List.take_append_of_le_length hgc]
  refine ⟨fun h0 => ?_, fun h0 => ?_⟩
  · obtain ⟨hwe, hI2⟩ := refI_step hI b (by rw [hL]; exact h0) hpos
    have hwl := waitsL_le sts (tl ++ [b])
    have e : stepU sts (tl, out, false) b = ((tl ++ [b]).drop ((tl ++ [b]).length - waitsL sts (tl ++ [b])), out ++ bI ((tl ++ [b]).take ((tl ++ [b]).length - waitsL sts (tl ++ [b]))), false) := by
      unfold stepU
      rw [if_neg (by simp), if_neg (by dsimp only; rw [hL, h0]; omega)]
    rw [e]
    refine ⟨rfl, fun _ => ⟨hI2, noStop_step hn h0, ?_, ?_⟩, fun h => by cases h⟩
    · rw [← hwe, hcl]; omega
    · dsimp only
      rw [ho, hcat]
      congr 3
      rw [← hwe, htl, hcl]
      rw [htl] at hwl
      omega
  · have hll := longest_le (tl ++ [b]) sts
    have e : stepU sts (tl, out, false) b = ((tl ++ [b]).drop ((tl ++ [b]).length - longest sts (tl ++ [b])), out ++ bI ((tl ++ [b]).take ((tl ++ [b]).length - longest sts (tl ++ [b]))), true) := by
      unfold stepU
      rw [if_neg (by simp), if_pos (by dsimp only; rw [hL]; exact h0)]
    rw [e]
    rw [hL, htl] at hll
    refine ⟨rfl, fun h => (by cases h), fun _ => ⟨?_, ?_, ?_⟩⟩
    · rw [hcl]; omega
    · omega
    · dsimp only
      rw [ho, hcat]
      congr 3
      rw [hL, htl, hcl]
      omega
theorem refB_end {sts : List (List UInt8)} {s : S3} {g0 long : Nat} {c : List UInt8} (h : RefB sts s g0 c false long) : RefB sts (endU s) g0 c true c.length := by
  obtain ⟨tl, out, ov⟩ := s
  have hov : ov = false := h.ov
  subst hov
  obtain ⟨hI, hn, hg, ho⟩ := h.go rfl
  dsimp only at hI ho
  obtain ⟨g, hgd⟩ : ∃ g, c.length - waitsL sts c = g := ⟨_, rfl⟩
  rw [hgd] at hI hg ho
  have hgc : g ≤ c.length := by omega
  refine ⟨rfl, fun h => (by cases h), fun _ => ⟨by omega, Nat.le_refl _, ?_⟩⟩
  show out ++ bI tl = _
  have := take_cat c (m := c.length - g) hg hgc
  rw [ho, ← bI_append, ← hI.dr]
  rw [List.take_of_length_le (l := c.drop g) (by rw [List.length_drop]; omega), show g + (c.length - g) = c.length by omega] at this
  rw [this]
/-- what was to be given out was given out -/
def toR (sts : List (List UInt8)) (c : List UInt8) (done : Bool) (long : Nat) : Nat := if done then long else c.length - waitsL sts c
theorem refB_out {sts : List (List UInt8)} {s : S3} {g0 long : Nat} {c : List UInt8} {d : Bool} (h : RefB sts s g0 c d long) : g0 ≤ toR sts c d long ∧ toR sts c d long ≤ c.length ∧ s.2.1 = bI ((c.take (toR sts c d long)).drop g0) := by
  unfold toR
  cases d with
  | true => obtain ⟨h1, h2, h3⟩ := h.st rfl; exact ⟨h1, h2, h3⟩
  | false => obtain ⟨_, _, h1, h2⟩ := h.go rfl; exact ⟨h1, by simp, h2⟩
theorem refB_take {sts : List (List UInt8)} {s : S3} {g0 long : Nat} {c : List UInt8} {d : Bool} (h : RefB sts s g0 c d long) : RefB sts (s.1, [], s.2.2) (toR sts c d long) c d long := by
  refine ⟨h.ov, fun hd => ?_, fun hd => ?_⟩
  · subst hd
    obtain ⟨h0, h1, h2, h3⟩ := h.go rfl
    refine ⟨h0, h1, Nat.le_refl _, ?_⟩
    show ([] : List Int) = bI (List.drop (toR sts c false long) _)
    rw [List.drop_of_length_le (by rw [List.length_take]; unfold toR; simp)]
    rfl
  · subst hd
    obtain ⟨h1, h2, h3⟩ := h.st rfl
    refine ⟨Nat.le_refl _, h2, ?_⟩
    show ([] : List Int) = bI (List.drop (toR sts c true long) _)
    rw [List.drop_of_length_le (by rw [List.length_take]; unfold toR; simp; omega)]
    rfl
end Go.Proofs.Ytcambbnmeiolgaa
namespace Go.Proofs.Ytcambbnmeiolgaa
open Go.RowKit
/-- it only drew -/
def Dr (w w' : World) : Prop := ∃ q, w' = w.drewN q
theorem Dr.refl (w : World) : Dr w w := ⟨0, rfl⟩
theorem Dr.draw {w w' : World} (h : Dr w w') (q : Nat) : Dr w (w'.drewN q) := by
  obtain ⟨k, rfl⟩ := h
  exact ⟨k + q, by rw [World.drewN_drewN]⟩
theorem Dr.trans {w w' w2 : World} (h : Dr w w') (h2 : Dr w' w2) : Dr w w2 := by
  obtain ⟨k, rfl⟩ := h2
  exact h.draw k
theorem Dr.below {w w' : World} (h : Dr w w') : Below w.heap.size w w' := by
  obtain ⟨k, rfl⟩ := h
  exact bdraw (Below.refl _ _) k
theorem second_q (a b : Int) (w : World) : Calls Try.prog 74 #[.int .u8 a, .int .u8 b] w fun e w' => e = .returned (.bool (secI a b)) ∧ w' = w := (second_any a b w).mono fun _ _ h => ⟨h.1, h.2.symm⟩
theorem beg_true {a : Int} {t : List Int} (h : t.length + 1 < widI a) (hall : ∀ j, 1 ≤ j → j < t.length + 1 → btwI ((a :: t).getD j 0) 128 191 = true ∧ (j = 1 → secI a ((a :: t).getD j 0) = true)) : begI (a :: t) = true := by
  show (decide (t.length + 1 < widI a) && (t.all (btwI · 128 191) && (t.head?.all (secI a ·)))) = true
  rw [decide_eq_true h, Bool.true_and, Bool.and_eq_true, List.all_eq_true]
  refine ⟨fun x hx => ?_, ?_⟩
  · obtain ⟨i, hi, rfl⟩ := List.getElem_of_mem hx
    have := (hall (i + 1) (by omega) (by omega)).1
    rwa [List.getD_cons_succ, List.getD_eq_getElem?_getD, List.getElem?_eq_getElem hi] at this
  · cases t with
    | nil => rfl
    | cons y t => simpa using (hall 1 (by omega) (by simp)).2 rfl
theorem beg_false {a : Int} {t : List Int} (j : Nat) (h1 : 1 ≤ j) (h2 : j < t.length + 1) (h : btwI ((a :: t).getD j 0) 128 191 = false ∨ (j = 1 ∧ secI a ((a :: t).getD j 0) = false)) : begI (a :: t) = false := by
  rw [Bool.eq_false_iff]
  intro hb
  replace hb : (decide (t.length + 1 < widI a) && (t.all (btwI · 128 191) && (t.head?.all (secI a ·)))) = true := hb
  rw [Bool.and_eq_true, Bool.and_eq_true, List.all_eq_true] at hb
  obtain ⟨i, rfl⟩ : ∃ i, j = i + 1 := ⟨j - 1, by omega⟩
  rcases h with h | ⟨h, h3⟩
  · rw [List.getD_cons_succ, List.getD_eq_getElem?_getD, List.getElem?_eq_getElem (by omega)] at h
    have := hb.2.1 (t[i]'(by omega)) (List.getElem_mem _)
    simp only [Option.getD_some] at h
    rw [h] at this; cases this
  · obtain rfl : i = 0 := by omega
    cases t with
    | nil => simp at h2
    | cons y t =>
      have := hb.2.2
      simp at this h3
      rw [this] at h3; cases h3
set_option maxRecDepth 100000 in
set_option maxHeartbeats 2000000 in
/-- the reference's Begins -/
theorem begins_ref (B : Option Addr) (n c : Nat) (bs : List Int) (w : World) (hn : bs.length = n) (rB : Rd w B (B8 bs)) (h3 : n ≤ 3) :
    Calls Try.prog 69 #[.slice B n c] w fun e w' => e = .returned (.bool (begI bs)) ∧ Dr w w' := by
  cases bs with
  | nil =>
    obtain rfl : n = 0 := by simpa using hn.symm
    go_enter Try.func69, Try.ntmps69
    go_wp2
    go_returns
    exact ⟨rfl, Dr.refl _⟩
  | cons a t =>
    have hl : t.length + 1 = n := by simpa using hn
    obtain ⟨b, o, rfl, y0⟩ := rB.b8 0 (by simp)
    rw [Nat.add_zero] at y0
    replace y0 : w.cell? ⟨b, o, none⟩ = some (.int .u8 a) := y0
    have ea := addr_add b o 0
    have RB := Lib.hid (fun (w' : World) (h : Below w.heap.size w w') (i : Nat) (hi : i < n) => (show w'.cell? ⟨b, o + i, none⟩ = some (.int .u8 ((a :: t).getD i 0)) by
      obtain ⟨b2, o2, he, hy⟩ := (rB.below h).b8 i (by simp; omega)
      injection he with he
      injection he with e1 e2
      subst e1 e2
      rw [hy, List.getD_eq_getElem?_getD, List.getElem?_eq_getElem (by simp; omega)]
      rfl))
    clear rB hn
    have g0 : ¬ (n : Int) = 0 := by omega
    have gz : 0 < n := by omega
    have g1 : (0 : Int) < (n : Int) := by omega
    go_enter Try.func69, Try.ntmps69
    rcases wid_cases a with ⟨h1, h2, h4, hw⟩ | ⟨h1, h2, h4, hw⟩ | ⟨h1, h2, h4, hw⟩ | ⟨h1, h2, h4, hw⟩
    · go_wp2_with fail
      refine (between_any _ _ _ _).mono ?_
      rintro e w1 ⟨rfl, rfl⟩
      rw [h1]
      by_cases hlw : n < 2
      · have g5 : (n : Int) < 2 := by omega
        have HW := Lib.hid hw
        clear hw h1 h2 h4
        go_wp2
        go_loopw [4, 5, 6] (fun iv _ _ wr => ∃ i : Nat, 1 ≤ i ∧ i ≤ n ∧ iv = .int .i64 (i : Int) ∧ (∀ j, 1 ≤ j → j < i → btwI ((a :: t).getD j 0) 128 191 = true ∧ (j = 1 → secI a ((a :: t).getD j 0) = true)) ∧ Dr w wr) (fun iv _ _ _ => n - (intOf iv).toNat)
        case atStart => exact ⟨1, by omega, by omega, rfl, fun j h1 h2 => by omega, Dr.refl _⟩
        case round =>
          obtain ⟨i, hi1, hin, rfl, hall, hbl⟩ := hrel
          have HA := Lib.hid hall
          clear hall
          by_cases hlt : i < n
          · have g2 : (i : Int) < (n : Int) := by omega
            obtain ⟨x, hx⟩ : ∃ x, (a :: t).getD i 0 = x := ⟨_, rfl⟩
            have yi : wr.cell? ⟨b, o + i, none⟩ = some (.int .u8 x) := by rw [← hx]; exact RB.out wr hbl.below i hlt
            have yz : wr.cell? ⟨b, o, none⟩ = some (.int .u8 a) := RB.out wr hbl.below 0 (by omega)
            have ei := addr_add b o i
            have HX := Lib.hid hx
            clear hx y0
            by_cases c1 : btwI x 128 191 = true
            · go_wp2_with fail
              refine (between_any _ _ _ _).mono ?_
              rintro e w1 ⟨rfl, rfl⟩
              rw [c1]
              cases hs : secI a x with
              | true =>
                have HS2 := Lib.hid (fun w' => (hs ▸ second_q a x w' : Calls Try.prog 74 #[.int .u8 a, .int .u8 x] w' fun e w'' => e = .returned (.bool true) ∧ w'' = w'))
                have HN := Lib.hid (show ∀ j, 1 ≤ j → j < i + 1 → btwI ((a :: t).getD j 0) 128 191 = true ∧ (j = 1 → secI a ((a :: t).getD j 0) = true) from fun j h1 h2 => by
                  rcases Nat.lt_or_ge j i with h | h
                  · exact HA.out j h1 h
                  · obtain rfl : j = i := by omega
                    rw [HX.out]; exact ⟨c1, fun _ => hs⟩)
                clear hs c1
                by_cases hi : i = 1
                · have g7 : ((i : Int) == 1) = true := by simp [hi]
                  clear hi
                  go_wp2
                  go_quiet ((go_at_call 74; exact Calls.quiet_of_same (HS2.out _)))
                  all_goals go_wp2
                  go_roundw
                  case rel => exact ⟨i + 1, by omega, by omega, by go_num, HN.out, hbl.draw _⟩
                  case measure => simp [intOf]; omega
                · have g7 : ((i : Int) == 1) = false := by simpa using (show ¬ (i : Int) = 1 by omega)
                  have g8 : ¬ (i : Int) = 1 := by omega
                  go_wp2
                  go_quiet ((go_at_call 74; exact Calls.quiet_of_same (HS2.out _)))
                  all_goals go_wp2
                  go_roundw
                  case rel => exact ⟨i + 1, by omega, by omega, by go_num, HN.out, hbl.draw _⟩
                  case measure => simp [intOf]; omega
              | false =>
                have HS2 := Lib.hid (fun w' => (hs ▸ second_q a x w' : Calls Try.prog 74 #[.int .u8 a, .int .u8 x] w' fun e w'' => e = .returned (.bool false) ∧ w'' = w'))
                by_cases hi : i = 1
                · have HB := Lib.hid (show begI (a :: t) = false from beg_false i hi1 (by omega) (.inr ⟨hi, by rw [HX.out]; exact hs⟩))
                  have g7 : ((i : Int) == 1) = true := by simp [hi]
                  clear hs c1 hi
                  go_wp2
                  go_quiet ((go_at_call 74; exact Calls.quiet_of_same (HS2.out _)))
                  all_goals go_wp2
                  go_returns
                  exact ⟨by rw [HB.out]; rfl, hbl.draw _⟩
                · have g7 : ((i : Int) == 1) = false := by simpa using (show ¬ (i : Int) = 1 by omega)
                  have g8 : ¬ (i : Int) = 1 := by omega
                  have HN := Lib.hid (show ∀ j, 1 ≤ j → j < i + 1 → btwI ((a :: t).getD j 0) 128 191 = true ∧ (j = 1 → secI a ((a :: t).getD j 0) = true) from fun j h1 h2 => by
                    rcases Nat.lt_or_ge j i with h | h
                    · exact HA.out j h1 h
                    · obtain rfl : j = i := by omega
                      rw [HX.out]; exact ⟨c1, fun h => absurd h hi⟩)
                  clear hs c1
                  go_wp2
                  go_quiet ((go_at_call 74; exact Calls.quiet_of_same (HS2.out _)))
                  all_goals go_wp2
                  go_roundw
                  case rel => exact ⟨i + 1, by omega, by omega, by go_num, HN.out, hbl.draw _⟩
                  case measure => simp [intOf]; omega
            · have c2 : btwI x 128 191 = false := by simpa using c1
              have HB := Lib.hid (show begI (a :: t) = false from beg_false i hi1 (by omega) (.inl (by rw [HX.out]; exact c2)))
              go_wp2_with fail
              refine (between_any _ _ _ _).mono ?_
              rintro e w1 ⟨rfl, rfl⟩
              rw [c2]
              go_wp2
              go_quiet ((go_at_call 74; exact Calls.quiet_of_same (second_q _ _ _)))
              all_goals go_wp2
              go_returns
              exact ⟨by rw [HB.out]; rfl, hbl.draw _⟩
          · obtain rfl : i = n := by omega
            have HB := Lib.hid (show begI (a :: t) = true from beg_true (by rw [HW.out]; omega) (fun j h1 h2 => HA.out j h1 (by omega)))
            go_wp2
            go_returns
            exact ⟨by rw [HB.out]; rfl, hbl⟩
      · have g5 : ¬ (n : Int) < 2 := by omega
        have g6 : 2 ≤ (n : Int) := by omega
        have HB := Lib.hid (show begI (a :: t) = false by show (decide (t.length + 1 < widI a) && _) = false; rw [hw, decide_eq_false (by omega), Bool.false_and])
        go_wp2
        go_returns
        exact ⟨by rw [HB.out]; rfl, Dr.refl _⟩
    · go_wp2_with fail
      refine (between_any _ _ _ _).mono ?_
      rintro e w1 ⟨rfl, rfl⟩
      rw [h1]
      go_wp2_with fail
      refine (between_any _ _ _ _).mono ?_
      rintro e w1 ⟨rfl, rfl⟩
      rw [h2]
      by_cases hlw : n < 3
      · have g5 : (n : Int) < 3 := by omega
        have HW := Lib.hid hw
        clear hw h1 h2 h4
        go_wp2
        go_loopw [4, 5, 6] (fun iv _ _ wr => ∃ i : Nat, 1 ≤ i ∧ i ≤ n ∧ iv = .int .i64 (i : Int) ∧ (∀ j, 1 ≤ j → j < i → btwI ((a :: t).getD j 0) 128 191 = true ∧ (j = 1 → secI a ((a :: t).getD j 0) = true)) ∧ Dr w wr) (fun iv _ _ _ => n - (intOf iv).toNat)
        case atStart => exact ⟨1, by omega, by omega, rfl, fun j h1 h2 => by omega, Dr.refl _⟩
        case round =>
          obtain ⟨i, hi1, hin, rfl, hall, hbl⟩ := hrel
          have HA := Lib.hid hall
          clear hall
          by_cases hlt : i < n
          · have g2 : (i : Int) < (n : Int) := by omega
            obtain ⟨x, hx⟩ : ∃ x, (a :: t).getD i 0 = x := ⟨_, rfl⟩
            have yi : wr.cell? ⟨b, o + i, none⟩ = some (.int .u8 x) := by rw [← hx]; exact RB.out wr hbl.below i hlt
            have yz : wr.cell? ⟨b, o, none⟩ = some (.int .u8 a) := RB.out wr hbl.below 0 (by omega)
            have ei := addr_add b o i
            have HX := Lib.hid hx
            clear hx y0
            by_cases c1 : btwI x 128 191 = true
            · go_wp2_with fail
              refine (between_any _ _ _ _).mono ?_
              rintro e w1 ⟨rfl, rfl⟩
              rw [c1]
              cases hs : secI a x with
              | true =>
                have HS2 := Lib.hid (fun w' => (hs ▸ second_q a x w' : Calls Try.prog 74 #[.int .u8 a, .int .u8 x] w' fun e w'' => e = .returned (.bool true) ∧ w'' = w'))
                have HN := Lib.hid (show ∀ j, 1 ≤ j → j < i + 1 → btwI ((a :: t).getD j 0) 128 191 = true ∧ (j = 1 → secI a ((a :: t).getD j 0) = true) from fun j h1 h2 => by
                  rcases Nat.lt_or_ge j i with h | h
                  · exact HA.out j h1 h
                  · obtain rfl : j = i := by omega
                    rw [HX.out]; exact ⟨c1, fun _ => hs⟩)
                clear hs c1
                by_cases hi : i = 1
                · have g7 : ((i : Int) == 1) = true := by simp [hi]
                  clear hi
                  go_wp2
                  go_quiet ((go_at_call 74; exact Calls.quiet_of_same (HS2.out _)))
                  all_goals go_wp2
                  go_roundw
                  case rel => exact ⟨i + 1, by omega, by omega, by go_num, HN.out, hbl.draw _⟩
                  case measure => simp [intOf]; omega
                · have g7 : ((i : Int) == 1) = false := by simpa using (show ¬ (i : Int) = 1 by omega)
                  have g8 : ¬ (i : Int) = 1 := by omega
                  go_wp2
                  go_quiet ((go_at_call 74; exact Calls.quiet_of_same (HS2.out _)))
                  all_goals go_wp2
                  go_roundw
                  case rel => exact ⟨i + 1, by omega, by omega, by go_num, HN.out, hbl.draw _⟩
                  case measure => simp [intOf]; omega
              | false =>
                have HS2 := Lib.hid (fun w' => (hs ▸ second_q a x w' : Calls Try.prog 74 #[.int .u8 a, .int .u8 x] w' fun e w'' => e = .returned (.bool false) ∧ w'' = w'))
                by_cases hi : i = 1
                · have HB := Lib.hid (show begI (a :: t) = false from beg_false i hi1 (by omega) (.inr ⟨hi, by rw [HX.out]; exact hs⟩))
                  have g7 : ((i : Int) == 1) = true := by simp [hi]
                  clear hs c1 hi
                  go_wp2
                  go_quiet ((go_at_call 74; exact Calls.quiet_of_same (HS2.out _)))
                  all_goals go_wp2
                  go_returns
                  exact ⟨by rw [HB.out]; rfl, hbl.draw _⟩
                · have g7 : ((i : Int) == 1) = false := by simpa using (show ¬ (i : Int) = 1 by omega)
                  have g8 : ¬ (i : Int) = 1 := by omega
                  have HN := Lib.hid (show ∀ j, 1 ≤ j → j < i + 1 → btwI ((a :: t).getD j 0) 128 191 = true ∧ (j = 1 → secI a ((a :: t).getD j 0) = true) from fun j h1 h2 => by
                    rcases Nat.lt_or_ge j i with h | h
                    · exact HA.out j h1 h
                    · obtain rfl : j = i := by omega
                      rw [HX.out]; exact ⟨c1, fun h => absurd h hi⟩)
                  clear hs c1
                  go_wp2
                  go_quiet ((go_at_call 74; exact Calls.quiet_of_same (HS2.out _)))
                  all_goals go_wp2
                  go_roundw
                  case rel => exact ⟨i + 1, by omega, by omega, by go_num, HN.out, hbl.draw _⟩
                  case measure => simp [intOf]; omega
            · have c2 : btwI x 128 191 = false := by simpa using c1
              have HB := Lib.hid (show begI (a :: t) = false from beg_false i hi1 (by omega) (.inl (by rw [HX.out]; exact c2)))
              go_wp2_with fail
              refine (between_any _ _ _ _).mono ?_
              rintro e w1 ⟨rfl, rfl⟩
              rw [c2]
              go_wp2
              go_quiet ((go_at_call 74; exact Calls.quiet_of_same (second_q _ _ _)))
              all_goals go_wp2
              go_returns
              exact ⟨by rw [HB.out]; rfl, hbl.draw _⟩
          · obtain rfl : i = n := by omega
            have HB := Lib.hid (show begI (a :: t) = true from beg_true (by rw [HW.out]; omega) (fun j h1 h2 => HA.out j h1 (by omega)))
            go_wp2
            go_returns
            exact ⟨by rw [HB.out]; rfl, hbl⟩
      · have g5 : ¬ (n : Int) < 3 := by omega
        have g6 : 3 ≤ (n : Int) := by omega
        have HB := Lib.hid (show begI (a :: t) = false by show (decide (t.length + 1 < widI a) && _) = false; rw [hw, decide_eq_false (by omega), Bool.false_and])
        go_wp2
        go_returns
        exact ⟨by rw [HB.out]; rfl, Dr.refl _⟩
    · go_wp2_with fail
      refine (between_any _ _ _ _).mono ?_
      rintro e w1 ⟨rfl, rfl⟩
      rw [h1]
      go_wp2_with fail
      refine (between_any _ _ _ _).mono ?_
      rintro e w1 ⟨rfl, rfl⟩
      rw [h2]
      go_wp2_with fail
      refine (between_any _ _ _ _).mono ?_
      rintro e w1 ⟨rfl, rfl⟩
      rw [h4]
      by_cases hlw : n < 4
      · have g5 : (n : Int) < 4 := by omega
        have HW := Lib.hid hw
        clear hw h1 h2 h4
        go_wp2
        go_loopw [4, 5, 6] (fun iv _ _ wr => ∃ i : Nat, 1 ≤ i ∧ i ≤ n ∧ iv = .int .i64 (i : Int) ∧ (∀ j, 1 ≤ j → j < i → btwI ((a :: t).getD j 0) 128 191 = true ∧ (j = 1 → secI a ((a :: t).getD j 0) = true)) ∧ Dr w wr) (fun iv _ _ _ => n - (intOf iv).toNat)
        case atStart => exact ⟨1, by omega, by omega, rfl, fun j h1 h2 => by omega, Dr.refl _⟩
        case round =>
          obtain ⟨i, hi1, hin, rfl, hall, hbl⟩ := hrel
          have HA := Lib.hid hall
          clear hall
          by_cases hlt : i < n
          · have g2 : (i : Int) < (n : Int) := by omega
            obtain ⟨x, hx⟩ : ∃ x, (a :: t).getD i 0 = x := ⟨_, rfl⟩
            have yi : wr.cell? ⟨b, o + i, none⟩ = some (.int .u8 x) := by rw [← hx]; exact RB.out wr hbl.below i hlt
            have yz : wr.cell? ⟨b, o, none⟩ = some (.int .u8 a) := RB.out wr hbl.below 0 (by omega)
            have ei := addr_add b o i
            have HX := Lib.hid hx
            clear hx y0
            by_cases c1 : btwI x 128 191 = true
            · go_wp2_with fail
              refine (between_any _ _ _ _).mono ?_
              rintro e w1 ⟨rfl, rfl⟩
              rw [c1]
              cases hs : secI a x with
              | true =>
                have HS2 := Lib.hid (fun w' => (hs ▸ second_q a x w' : Calls Try.prog 74 #[.int .u8 a, .int .u8 x] w' fun e w'' => e = .returned (.bool true) ∧ w'' = w'))
                have HN := Lib.hid (show ∀ j, 1 ≤ j → j < i + 1 → btwI ((a :: t).getD j 0) 128 191 = true ∧ (j = 1 → secI a ((a :: t).getD j 0) = true) from fun j h1 h2 => by
                  rcases Nat.lt_or_ge j i with h | h
                  · exact HA.out j h1 h
                  · obtain rfl : j = i := by omega
                    rw [HX.out]; exact ⟨c1, fun _ => hs⟩)
                clear hs c1
                by_cases hi : i = 1
                · have g7 : ((i : Int) == 1) = true := by simp [hi]
                  clear hi
                  go_wp2
                  go_quiet ((go_at_call 74; exact Calls.quiet_of_same (HS2.out _)))
                  all_goals go_wp2
                  go_roundw
                  case rel => exact ⟨i + 1, by omega, by omega, by go_num, HN.out, hbl.draw _⟩
                  case measure => simp [intOf]; omega
                · have g7 : ((i : Int) == 1) = false := by simpa using (show ¬ (i : Int) = 1 by omega)
                  have g8 : ¬ (i : Int) = 1 := by omega
                  go_wp2
                  go_quiet ((go_at_call 74; exact Calls.quiet_of_same (HS2.out _)))
                  all_goals go_wp2
                  go_roundw
                  case rel => exact ⟨i + 1, by omega, by omega, by go_num, HN.out, hbl.draw _⟩
                  case measure => simp [intOf]; omega
              | false =>
                have HS2 := Lib.hid (fun w' => (hs ▸ second_q a x w' : Calls Try.prog 74 #[.int .u8 a, .int .u8 x] w' fun e w'' => e = .returned (.bool false) ∧ w'' = w'))
                by_cases hi : i = 1
                · have HB := Lib.hid (show begI (a :: t) = false from beg_false i hi1 (by omega) (.inr ⟨hi, by rw [HX.out]; exact hs⟩))
                  have g7 : ((i : Int) == 1) = true := by simp [hi]
                  clear hs c1 hi
                  go_wp2
                  go_quiet ((go_at_call 74; exact Calls.quiet_of_same (HS2.out _)))
                  all_goals go_wp2
                  go_returns
                  exact ⟨by rw [HB.out]; rfl, hbl.draw _⟩
                · have g7 : ((i : Int) == 1) = false := by simpa using (show ¬ (i : Int) = 1 by omega)
                  have g8 : ¬ (i : Int) = 1 := by omega
                  have HN := Lib.hid (show ∀ j, 1 ≤ j → j < i + 1 → btwI ((a :: t).getD j 0) 128 191 = true ∧ (j = 1 → secI a ((a :: t).getD j 0) = true) from fun j h1 h2 => by
                    rcases Nat.lt_or_ge j i with h | h
                    · exact HA.out j h1 h
                    · obtain rfl : j = i := by omega
                      rw [HX.out]; exact ⟨c1, fun h => absurd h hi⟩)
                  clear hs c1
                  go_wp2
                  go_quiet ((go_at_call 74; exact Calls.quiet_of_same (HS2.out _)))
                  all_goals go_wp2
                  go_roundw
                  case rel => exact ⟨i + 1, by omega, by omega, by go_num, HN.out, hbl.draw _⟩
                  case measure => simp [intOf]; omega
            · have c2 : btwI x 128 191 = false := by simpa using c1
              have HB := Lib.hid (show begI (a :: t) = false from beg_false i hi1 (by omega) (.inl (by rw [HX.out]; exact c2)))
              go_wp2_with fail
              refine (between_any _ _ _ _).mono ?_
              rintro e w1 ⟨rfl, rfl⟩
              rw [c2]
              go_wp2
              go_quiet ((go_at_call 74; exact Calls.quiet_of_same (second_q _ _ _)))
              all_goals go_wp2
              go_returns
              exact ⟨by rw [HB.out]; rfl, hbl.draw _⟩
          · obtain rfl : i = n := by omega
            have HB := Lib.hid (show begI (a :: t) = true from beg_true (by rw [HW.out]; omega) (fun j h1 h2 => HA.out j h1 (by omega)))
            go_wp2
            go_returns
            exact ⟨by rw [HB.out]; rfl, hbl⟩
      · have g5 : ¬ (n : Int) < 4 := by omega
        have g6 : 4 ≤ (n : Int) := by omega
        have HB := Lib.hid (show begI (a :: t) = false by show (decide (t.length + 1 < widI a) && _) = false; rw [hw, decide_eq_false (by omega), Bool.false_and])
        go_wp2
        go_returns
        exact ⟨by rw [HB.out]; rfl, Dr.refl _⟩
    · have HB := Lib.hid (show begI (a :: t) = false by show (decide (t.length + 1 < widI a) && _) = false; rw [hw, decide_eq_false (by omega), Bool.false_and])
      go_wp2_with fail
      refine (between_any _ _ _ _).mono ?_
      rintro e w1 ⟨rfl, rfl⟩
      rw [h1]
      go_wp2_with fail
      refine (between_any _ _ _ _).mono ?_
      rintro e w1 ⟨rfl, rfl⟩
      rw [h2]
      go_wp2_with fail
      refine (between_any _ _ _ _).mono ?_
      rintro e w1 ⟨rfl, rfl⟩
      rw [h4]
      go_wp2
      go_returns
      exact ⟨by rw [HB.out]; rfl, Dr.refl _⟩
end Go.Proofs.Ytcambbnmeiolgaa
namespace Go.Proofs.Ytcambbnmeiolgaa
open Go.RowKit
def toU (l : List Int) : List UInt8 := l.map u8
theorem toU_length (l : List Int) : (toU l).length = l.length := List.length_map _
/-- does one of the texts stand in the bytes? -/
def hasL (bs : List Int) (sts : List (List UInt8)) : Bool := sts.any fun s => decide (s <:+: toU bs)
theorem hasL_true {bs : List Int} {sts : List (List UInt8)} {s : List UInt8} (h : s ∈ sts) (hi : s <:+: toU bs) : hasL bs sts = true := by
  unfold hasL
  rw [List.any_eq_true]
  exact ⟨s, h, decide_eq_true hi⟩
theorem hasL_false {bs : List Int} {sts : List (List UInt8)} (h : ∀ s ∈ sts, ¬ s <:+: toU bs) : hasL bs sts = false := by
  unfold hasL
  rw [List.any_eq_false]
  intro s hs
  rw [decide_eq_false (h s hs)]
  decide
theorem inf_at {s L : List UInt8} {j : Nat} (h : (L.drop j).take s.length = s) : s <:+: L := by
  refine ⟨L.take j, (L.drop j).drop s.length, ?_⟩
  have h1 := List.take_append_drop s.length (L.drop j)
  rw [h] at h1
  rw [List.append_assoc, h1, List.take_append_drop]
theorem inf_none {s L : List UInt8} (h : ∀ j, j + s.length ≤ L.length → (L.drop j).take s.length ≠ s) : ¬ s <:+: L := by
  rintro ⟨p, q, hq⟩
  refine h p.length (by rw [← hq, List.length_append, List.length_append]; omega) ?_
  rw [← hq, List.append_assoc, List.drop_left, List.take_left]
theorem rd_cut {w : World} {b o : Nat} {l : List Int} (h : Rd w (some ⟨b, o, none⟩) (B8 l)) (a n : Nat) (hle : a + n ≤ l.length) : Rd w (some ⟨b, o + a, none⟩) (B8 ((l.drop a).take n)) := by
  rcases h with h | ⟨b', o', e, h⟩
  · refine .inl ?_
    have : l = [] := by simpa [B8] using h
    subst this
    simp [B8]
  · injection e with e
    injection e with e1 e2
    subst e1 e2
    refine .inr ⟨b, o + a, rfl, fun i hi => ?_⟩
    have hi2 : i < n := by simp [B8] at hi; omega
    have := h (a + i) (by simp [B8]; omega)
    rw [show o + a + i = o + (a + i) by omega, this]
    simp [B8, hi2]
theorem str_ne {a b : ByteArray} (h : ¬ a = b) : (a.toList == b.toList) = false := by
  rw [beq_eq_false_iff_ne, ByteArray.toList_eq, ByteArray.toList_eq]
  intro he
  exact h (by rw [← mk_lst a, ← mk_lst b]; show (⟨(lst a).toArray⟩ : ByteArray) = ⟨(lst b).toArray⟩; rw [show lst a = lst b from he])
theorem cut_u8 (l : List Int) (a n : Nat) : toU ((l.drop a).take n) = ((toU l).drop a).take n := by unfold toU; rw [List.map_take, List.map_drop]

set_option maxRecDepth 100000 in
set_option maxHeartbeats 2000000 in
/-- has -/
theorem has_any (B S : Option Addr) (bn bc sn sc : Nat) (bs : List Int) (strs : List ByteArray) (w : World) (hb : bs.length = bn) (hbc : bn ≤ bc) (rB : Rd w B (B8 bs)) (hbn : bn ≤ 1099511627776) (hS : strs.length = sn) (rS : Rd w S (strs.map Value.string)) (hsn : sn ≤ 140737488355328) (h16 : ∀ s ∈ strs, 1 ≤ s.size ∧ s.size ≤ 16) :
    Calls Try.prog 27 #[.slice B bn bc, .slice S sn sc] w fun e w' => e = .returned (.bool (hasL bs (strs.map lst))) ∧ Below w.heap.size w w' := by
  have RB := Lib.hid rB
  have RS := Lib.hid rS
  clear rB rS
  go_enter Try.func27, Try.ntmps27
  go_wp2
  go_loopw [5, 6] (fun i _ wr => ∃ a : Nat, a ≤ sn ∧ i = .int .i64 (a : Int) ∧ (∀ s ∈ (strs.map lst).take a, ¬ s <:+: toU bs) ∧ Below w.heap.size w wr) (fun i _ _ => sn - (intOf i).toNat)
  case atStart => exact ⟨0, by omega, rfl, by simp, Below.refl _ _⟩
  case round =>
    obtain ⟨a, ha, rfl, hno, hbl⟩ := hrel
    have NO := Lib.hid hno
    clear hno
    by_cases hlt : a < sn
    · have g1 : (a : Int) < (sn : Int) := by omega
      obtain ⟨hst1, hst⟩ := h16 strs[a] (List.getElem_mem _)
      have ME := Lib.hid (show lst strs[a] ∈ strs.map lst from List.mem_map.2 ⟨_, List.getElem_mem _, rfl⟩)
      have TK := Lib.hid (show (strs.map lst).take (a + 1) = (strs.map lst).take a ++ [lst strs[a]] by rw [List.take_succ_eq_append_getElem (by rw [List.length_map]; omega), List.getElem_map])
      have AT := Lib.hid (fun (w' : World) (h : Below w.heap.size w w') => (RS.out.below h).at a (by rw [List.length_map]; omega))
      have E := Lib.hid (List.getElem_map lst (l := strs) (i := a) (h := by rw [List.length_map]; omega))
      have CE := Lib.hid (show (strs.map Value.string)[a]'(by rw [List.length_map]; omega) = .string strs[a] by rw [List.getElem_map])
      generalize strs[a] = st at *
      go_wp2
      go_loopw [6] (fun k wr => ∃ j : Nat, j ≤ bn + 1 ∧ k = .int .i64 (j : Int) ∧ (∀ j' < j, ((toU bs).drop j').take st.size ≠ lst st) ∧ Below w.heap.size w wr) (fun k _ => bn + 1 - (intOf k).toNat)
      case atStart => exact ⟨0, by omega, rfl, fun j' h => by omega, hbl⟩
      case round =>
        clear hbl
        obtain ⟨j, hj, rfl, hne, hbl⟩ := hrel
        have NE := Lib.hid hne
        clear hne
        obtain ⟨sb, so, rfl, y0⟩ := AT.out _ hbl
        rw [CE.out] at y0
        have ea := addr_add sb so a
        by_cases hle : j + st.size ≤ bn
        · have g2 : (j : Int) + (st.size : Int) ≤ (bn : Int) := by omega
          obtain ⟨bb, bo, rfl⟩ : ∃ bb bo, B = some ⟨bb, bo, none⟩ := by
            rcases RB.out with h | ⟨b', o', e, _⟩
            · have : bs = [] := by simpa [B8] using h
              subst this
              simp at hb
              omega
            · exact ⟨b', o', e⟩
          obtain ⟨str, hstr⟩ : ∃ str : ByteArray, str = ⟨(toU ((bs.drop j).take st.size)).toArray⟩ := ⟨_, rfl⟩
          have hl : lst str = ((toU bs).drop j).take st.size := by rw [hstr, ← cut_u8]
          have hcv : ∀ c q, (convert 34 9 (.slice (some ⟨bb, bo + j, none⟩) st.size c)).run Try.prog (wr.drewN q) = .ok (.string str) (wr.drewN q) := by
            intro c q
            rw [hstr]
            exact conv_run _ _ _ _ _ (by rw [List.length_take, List.length_drop]; omega) (rd_cut (RB.out.below (bdraw hbl q)) j st.size (by omega))
          have ea2 := addr_add bb bo j
          have g3 : (j : Int) + (st.size : Int) ≤ (bc : Int) := by omega
          have g4 : (j : Int) ≤ (j : Int) + (st.size : Int) := by omega
          have g5 : j + st.size ≤ bc := by omega
          clear hstr
          by_cases hq : str = st
          · subst hq
            have HT := Lib.hid (show hasL bs (strs.map lst) = true from hasL_true ME.out (inf_at (j := j) (by rw [lst_length]; exact hl.symm)))
            clear hl
            go_wp2
            go_quiet (fail)
            all_goals go_wp2
            go_returns
            exact ⟨by rw [HT.out]; rfl, bdraw hbl _⟩
          · have hq2 : (str.toList == st.toList) = false := str_ne hq
            have HL := Lib.hid hl
            clear hl
            go_wp2
            go_quiet (fail)
            all_goals go_wp2
            go_roundw
            case rel =>
              refine ⟨j + 1, by omega, by go_num, ?_, bdraw hbl _⟩
              intro j' hj'
              rcases Nat.lt_or_ge j' j with h | h
              · exact NE.out j' h
              · obtain rfl : j' = j := by omega
                intro he
                rw [← HL.out] at he
                exact hq (by rw [← mk_lst str, he, mk_lst])
            case measure => simp [intOf]; omega
        · have g2 : ¬ (j : Int) + (st.size : Int) ≤ (bn : Int) := by omega
          have g3 : (bn : Int) < (j : Int) + (st.size : Int) := by omega
          go_wp2
          go_roundw
          case rel =>
            refine ⟨a + 1, by omega, by go_num, ?_, hbl⟩
            intro s hs
            rw [TK.out] at hs
            rcases List.mem_append.1 hs with h | h
            · exact NO.out s h
            · rw [List.mem_singleton.1 h]
              refine inf_none (fun j' hj' => ?_)
              rw [lst_length] at hj' ⊢
              rw [toU_length, hb] at hj'
              exact NE.out j' (by omega)
          case measure => simp [intOf]; omega
    · obtain rfl : a = sn := by omega
      have HF := Lib.hid (show hasL bs (strs.map lst) = false from hasL_false (by have := NO.out; rwa [List.take_of_length_le (by rw [List.length_map]; omega)] at this))
      go_wp2
      go_returns
      exact ⟨by rw [HF.out]; rfl, hbl⟩
end Go.Proofs.Ytcambbnmeiolgaa
