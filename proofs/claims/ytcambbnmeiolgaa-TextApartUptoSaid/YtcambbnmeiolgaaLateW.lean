import Derived.Test.YtcambbnmeiolgaaFix
import Derived.Test.YtcambbnmeiolgaaRgt
namespace Go.Proofs.Ytcambbnmeiolgaa
open Go.RowKit
theorem bgrown {w wi wj : World} {p : Nat} (hb : Below w.heap.size w wi) (hg : wi.grownBy wj (some p)) (hp : w.heap.size ≤ p) : Below w.heap.size w wj := hb.grown hg hb.size (fun k e => by cases e; exact hp)
set_option maxRecDepth 100000 in
set_option maxHeartbeats 400000 in
/-- Long -/
theorem long_any (x : Int) (w : World) : Calls Try.prog 11 #[.int .i64 x] w fun e w' => e = .returned (.bool (decide (2147483647 < x))) ∧ w = w' := by
  go_enter Try.func11, Try.ntmps11
  go_wp2
  go_returns
  exact ⟨rfl, rfl⟩
theorem rgt_ok (n : Nat) (l : List Int) (may : Bool) : okTs n (rgt n l may) := by
  intro x hx
  unfold rgt at hx
  split at hx
  · obtain ⟨y, _, rfl⟩ := List.mem_map.1 hx
    exact ⟨(rgt1_ok (by assumption) may y).1, (rgt1_ok (by assumption) may y).2.1⟩
  · cases hx
theorem rgt_len (n : Int) (l : List Int) (may : Bool) : (rgt n l may).length ≤ l.length := by
  unfold rgt
  split <;> simp
/-- Close -/
theorem close_both (w : World) (p : Nat) (wds : List (List Int)) (sts : List ByteArray) (t : List UInt8) (e : Bool) (h : Strm w p wds sts t e) (ht : t.length ≤ 18) (h0 : 0 < wds.length) :
    Calls Try.prog 22 #[.pointer (some ⟨p, 0, none⟩)] w fun en w' => ∃ u t', en = .returned u ∧ w'.ownsRow w.heap.size 5 1 u (if e then [] else bI t).length (B8 (if e then [] else bI t)) ∧ t'.length ≤ 18 ∧ Strm w' p wds sts t' true ∧ w.grownBy w' (some p) := by
  cases e with
  | true =>
    refine (close_over w p wds sts t h).mono ?_
    rintro en w' ⟨rfl, rfl⟩
    exact ⟨_, t, rfl, World.ownsRow_nil _ _ _ _, ht, h, World.grownBy.refl w _⟩
  | false =>
    refine (close_any w p wds sts t h ht h0).mono ?_
    rintro en w' ⟨u, rfl, ou, hs, hg⟩
    exact ⟨u, [], rfl, ou, by simp, hs, hg⟩
theorem newE_some {bs : List Int} {ps : List (Int × Int)} {strs : List ByteArray} (h : newE bs ps strs = 0) : 2 ≤ (toks bs ps).length := by
  cases hq : vocF bs ps with
  | none => rw [newE_voc hq] at h; cases h
  | some ls =>
    have := (toks_of hq).len
    have h1 := (toks_of hq).n1
    unfold toks
    rw [hq]
    show 2 ≤ ls.length
    omega
theorem size_bad (n : Nat) : ¬ okTs n [(n : Int)] := fun h => by have := (h n (by simp)).2; omega

set_option maxRecDepth 100000 in
set_option maxHeartbeats 8000000 in
/-- TextLate -/
theorem late_any (A A' S L K : Option Addr) (n m sn ln kn c c' sc lc kc : Nat) (bs : List Int) (ps : List (Int × Int)) (strs : List ByteArray) (l late : List Int) (w : World) (hv : Voc w A A' n m bs ps) (hwf : Wf bs ps) (hS : strs.length = sn) (rS : Rd w S (strs.map Value.string)) (hsn : sn ≤ 140737488355328) (hl : l.length = ln) (rl : Rd w L (I64 l)) (hk : late.length = kn) (rk : Rd w K (I64 late)) :
    Calls Try.prog 6 #[.agg #[.slice A n c, .slice A' m c'], .slice S sn sc, .slice L ln lc, .slice K kn kc] w fun e w' => e = .returned (.bool true) ∧ Below w.heap.size w w' := by
  have h0 : Below w.heap.size w (w.alloc (.cells #[.slice A n c, .slice A' m c'] 37)) := by go_grown
  have q0 := Blk.new w #[.slice A n c, .slice A' m c'] 37
  go_enter Try.func6, Try.ntmps6
  go_wp2_with fail
  refine (long_any _ _).mono ?_
  rintro e w1 ⟨rfl, rfl⟩
  by_cases g1 : (2147483647 : Int) < ln
  · go_wp2
    go_returns
    exact ⟨rfl, h0⟩
  · go_wp2_with fail
    refine (long_any _ _).mono ?_
    rintro e w1 ⟨rfl, rfl⟩
    by_cases g2 : (2147483647 : Int) < kn
    · go_wp2
      go_returns
      exact ⟨rfl, h0⟩
    · go_wp2_with fail
      refine (fixed_any _).mono ?_
      rintro e w2 ⟨rfl, hb⟩
      replace q0 := q0.below hb
      replace hb := bthen h0 hb
      have hl2 := q0.lt
      have y0 : w2.cell? ⟨w.heap.size, 0, none⟩ = some (.slice A n c) := q0.cell _
      have y1 : w2.cell? ⟨w.heap.size, 1, none⟩ = some (.slice A' m c') := q0.cell _
      go_wp2_with fail
      refine (new_any A A' S n m sn c c' sc bs ps strs w2 (hv.below hb) hwf hS (rS.below hb) hsn).mono ?_
      rintro e w3 ⟨hb3, (⟨hne, rfl⟩ | ⟨he0, p, hp, rfl, hs⟩)⟩
      · have HB := Lib.hid (bthen hb hb3)
        generalize newE bs ps strs = k0 at *
        have hd : (k0 != 0) = true := by simpa using hne
        clear hb hb3 q0 y0 y1
        go_wp2
        go_returns
        exact ⟨rfl, HB.out⟩
      · replace q0 := q0.below hb3
        replace hb := bthen hb hb3
        have htk := newE_some he0
        have hwp : w.heap.size < p := by omega
        clear hb3 y0 y1 he0 hp hl2 h0
        have y0 : w3.cell? ⟨w.heap.size, 0, none⟩ = some (.slice A n c) := q0.cell _
        have y1 : w3.cell? ⟨w.heap.size, 1, none⟩ = some (.slice A' m c') := q0.cell _
        go_wp2_with fail
        refine (right_any A A' L n m ln c c' lc bs ps l true w3 (hv.below hb) hwf hl (rl.below hb) (by omega)).mono ?_
        rintro e w4 ⟨u, rfl, ou, hb4⟩
        have hpl := hs.lt
        replace hs := hs.below hb4
        replace q0 := q0.below hb4
        replace hb := bthen hb hb4
        obtain ⟨uA, uc, rfl, _, _⟩ := own_rd ou
        have hrl := rgt_len (toks bs ps).length l true
        clear y0 y1 hb4
        go_wp2_with fail
        refine (feed_any uA _ uc (rgt (toks bs ps).length l true) w4 p (toks bs ps) strs [] false hs (by simp) rfl (by omega) (own_rdv ou) (fun b o h _ => by subst h; have := (own_lt ou b rfl).1; omega) (rgt_ok _ _ _)).mono ?_
        rintro e w5 ⟨u2, rfl, ou2, hs5, hg5⟩
        replace q0 := q0.kept hg5 (by simp; omega)
        replace hb := bgrown hb hg5 (by omega)
        obtain ⟨t1, ht1⟩ : ∃ t1, (feedU (strs.map lst) (toks bs ps) ([], [], false) (rgt (toks bs ps).length l true)) = t1 := ⟨_, rfl⟩
        have hS5 := hs5
        obtain ⟨_, _, _, hSta, _, _⟩ := hS5
        have hlen := (feedU_len (strs.map lst) (toks bs ps) hSta.lens (fun x hx => (hSta.w16 x hx).1) (rgt (toks bs ps).length l true) ([], [], false) (by simp)).1
        rw [ht1] at hs5 hlen
        clear ou ou2 hs hg5 hSta ht1 hrl
        go_wp2_with fail
        refine (close_both w5 p (toks bs ps) strs t1.1 t1.2.2 hs5 hlen (by omega)).mono ?_
        rintro e w6 ⟨u3, t2, rfl, _, ht2, hs6, hg6⟩
        replace q0 := q0.kept hg6 (by simp; omega)
        replace hb := bgrown hb hg6 (by omega)
        clear hs5 hlen hg6
        have y0 : w6.cell? ⟨w.heap.size, 0, none⟩ = some (.slice A n c) := q0.cell _
        have y1 : w6.cell? ⟨w.heap.size, 1, none⟩ = some (.slice A' m c') := q0.cell _
        go_wp2_with fail
        refine (right_any A A' K n m kn c c' kc bs ps late true w6 (hv.below hb) hwf hk (rk.below hb) (by omega)).mono ?_
        rintro e w7 ⟨u4, rfl, ou, hb7⟩
        have hpl := hs6.lt
        replace hs6 := hs6.below hb7
        replace q0 := q0.below hb7
        replace hb := bthen hb hb7
        obtain ⟨uB, ud, rfl, _, _⟩ := own_rd ou
        have hrl := rgt_len (toks bs ps).length late true
        clear y0 y1 hb7
        go_wp2_with fail
        refine (feed_any uB _ ud (rgt (toks bs ps).length late true) w7 p (toks bs ps) strs t2 true hs6 ht2 rfl (by omega) (own_rdv ou) (fun b o h _ => by subst h; have := (own_lt ou b rfl).1; omega) (rgt_ok _ _ _)).mono ?_
        rintro e w8 ⟨u5, rfl, ou5, hs8, hg8⟩
        rw [feedU_over _ _ _ _ rfl] at ou5 hs8
        replace q0 := q0.kept hg8 (by simp; omega)
        replace hb := bgrown hb hg8 (by omega)
        obtain ⟨uE, uf, rfl, _, _⟩ := own_rd ou5
        simp only [List.length_nil] at ou5
        clear ou hs6 hg8 hrl ou5
        have y0 : w8.cell? ⟨w.heap.size, 0, none⟩ = some (.slice A n c) := q0.cell _
        have y1 : w8.cell? ⟨w.heap.size, 1, none⟩ = some (.slice A' m c') := q0.cell _
        go_wp2_with fail
        refine (size_any A A' n m c c' bs ps w8 (hv.below hb) hwf).mono ?_
        rintro e w9 ⟨rfl, hb9⟩
        rw [szV_toks]
        replace hs8 := hs8.below hb9
        replace hb := bthen hb hb9
        clear y0 y1 hb9 q0
        go_wp2_with fail
        have k9 := Blk.new w9 #[.int .i64 ((toks bs ps).length : Int)] 3
        have h9 : Below w9.heap.size w9 (w9.alloc (.cells #[.int .i64 ((toks bs ps).length : Int)] 3)) := by go_grown
        refine (feed_bad (some ⟨w9.heap.size, 0, none⟩) 1 1 [((toks bs ps).length : Int)] _ p (toks bs ps) strs t2 true (hs8.below h9) rfl (by omega) (blk_rd k9 rfl) (size_bad _)).mono ?_
        rintro e w10 ⟨rfl, rfl⟩
        replace hs8 := hs8.below h9
        replace hb := bthen hb h9
        clear k9 h9
        go_wp2_with fail
        refine (close_over _ p (toks bs ps) strs t2 hs8).mono ?_
        rintro e w11 ⟨rfl, rfl⟩
        go_wp2_with fail
        refine (over_any _ p (toks bs ps) strs t2 true hs8).mono ?_
        rintro e w12 ⟨rfl, rfl⟩
        go_wp2
        go_returns
        exact ⟨rfl, hb⟩
end Go.Proofs.Ytcambbnmeiolgaa
