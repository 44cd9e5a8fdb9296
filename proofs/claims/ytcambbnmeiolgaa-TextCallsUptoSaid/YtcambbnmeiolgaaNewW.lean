import Derived.Test.YtcambbnmeiolgaaNewP
namespace Go.Proofs.Ytcambbnmeiolgaa
open Go.RowKit Go.Shelf
attribute [local go_sem] Oper.semAt_some

theorem info9 : (Try.prog.info? 9).map (fun i => (i.zero, i.size, i.bytes)) = some (some (.string ⟨#[]⟩), 1, 16) := by kernel_rfl
/-- may the stop string not be? -/
def badS (s : ByteArray) : Prop := s.size = 0 ∨ 16 < s.size
instance (s : ByteArray) : Decidable (badS s) := by unfold badS; infer_instance
def newE (bs : List Int) (ps : List (Int × Int)) (strs : List ByteArray) : Int := if (vocF bs ps).isNone then 50 else if 4 < strs.length ∨ ∃ s ∈ strs, badS s then 180 else 0
def NewOut (w : World) (bs : List Int) (ps : List (Int × Int)) (strs : List ByteArray) (en : Ending) (w' : World) : Prop :=
  Below w.heap.size w w' ∧ ((newE bs ps strs ≠ 0 ∧ en = .returned (.tuple #[.pointer none, .int .i64 (newE bs ps strs)])) ∨ (newE bs ps strs = 0 ∧ ∃ p, w.heap.size ≤ p ∧ en = .returned (.tuple #[.pointer (some ⟨p, 0, none⟩), .int .i64 0]) ∧ Strm w' p (toks bs ps) strs [] false))
def NewOutB (w : World) (bs : List Int) (ps : List (Int × Int)) (strs : List ByteArray) (en : Ending) (w' : World) : Prop :=
  Below w.heap.size w w' ∧ ((newE bs ps strs ≠ 0 ∧ en = .returned (.tuple #[.pointer none, .int .i64 (newE bs ps strs)])) ∨ (newE bs ps strs = 0 ∧ ∃ p, w.heap.size ≤ p ∧ en = .returned (.tuple #[.pointer (some ⟨p, 0, none⟩), .int .i64 0]) ∧ StrmB w.heap.size w' p (toks bs ps) strs))
theorem newE_voc {bs : List Int} {ps : List (Int × Int)} {strs : List ByteArray} (h : vocF bs ps = none) : newE bs ps strs = 50 := by unfold newE; rw [h]; rfl
theorem newE_bad {bs : List Int} {ps : List (Int × Int)} {strs : List ByteArray} {ls : List (List Int)} (h : vocF bs ps = some ls) (hb : 4 < strs.length ∨ ∃ s ∈ strs, badS s) : newE bs ps strs = 180 := by unfold newE; rw [h, if_pos hb]; rfl
theorem newE_ok {bs : List Int} {ps : List (Int × Int)} {strs : List ByteArray} {ls : List (List Int)} (h : vocF bs ps = some ls) (h4 : strs.length ≤ 4) (hb : ∀ s ∈ strs, ¬ badS s) : newE bs ps strs = 0 := by
  have hn : ¬ (4 < strs.length ∨ ∃ s ∈ strs, badS s) := by
    rintro (h | ⟨s, h1, h2⟩)
    · omega
    · exact hb s h1 h2
  unfold newE
  rw [h, if_neg hn]
  rfl
/-- what lies, ahead of the first token; in round j -/
def NwI0 (w : World) (p k : Nat) (sv : Value) (strs : List ByteArray) (W : World) : Prop :=
  Blk W p (SC (.slice none 0 0) sv ⟨#[]⟩ (.slice none 0 0) false) 85 ∧ Blk W (p + 1) #[.pointer (some ⟨p, 0, none⟩)] 26 ∧ W.ownsRow w.heap.size 9 1 sv k (strs.map Value.string) ∧ Below w.heap.size w W
def NwI (w : World) (B p k : Nat) (sv : Value) (strs : List ByteArray) (ls : List (List Int)) (S j : Nat) (W : World) : Prop :=
  ∃ wv vals, Blk W p (SC wv sv ⟨#[]⟩ (.slice none 0 0) false) 85 ∧ Blk W (p + 1) #[.pointer (some ⟨p, 0, none⟩)] 26 ∧ W.ownsRow w.heap.size 9 1 sv k (strs.map Value.string) ∧ W.ownsRow S 34 1 wv j vals ∧ (∀ (i : Nat) (v : Value), vals[i]? = some v → W.ownsRow B 5 1 v (tok ls i).length (B8 (tok ls i)) ∧ ∀ q, v.ownBlock = some q → q < S) ∧ Below w.heap.size w W ∧ S ≤ W.heap.size
def NwX (_ : Code) (_ _ : Nat) (_ : World) : Prop := False

theorem nwi_next {w W w5 : World} {B p k : Nat} {sv wv v u : Value} {o : Obj} {strs : List ByteArray} {ls : List (List Int)} {S j : Nat} {vals : List Value}
    (h1 : Blk W p (SC wv sv ⟨#[]⟩ (.slice none 0 0) false) 85) (h2 : Blk W (p + 1) #[.pointer (some ⟨p, 0, none⟩)] 26) (h3 : W.ownsRow w.heap.size 9 1 sv k (strs.map Value.string)) (h4 : W.ownsRow S 34 1 wv j vals) (h5 : ∀ (i : Nat) (v : Value), vals[i]? = some v → W.ownsRow B 5 1 v (tok ls i).length (B8 (tok ls i)) ∧ ∀ q, v.ownBlock = some q → q < S) (h6 : Below w.heap.size w W) (h7 : S ≤ W.heap.size)
    (ov : W.ownsRow B 5 1 v (tok ls j).length (B8 (tok ls j))) (hq : ∀ q, v.ownBlock = some q → q < S) (hp : w.heap.size ≤ p) (hpB : p + 1 < B) (hBS : B ≤ S)
    (os : w5.ownsRow S 34 1 u (j + 1) (vals ++ [v])) (hb : Below S W w5) (hg : ((W.alloc o).drew).grownBy w5 wv.ownBlock) :
    UpS B S W (w5.setCell ⟨p, 0, none⟩ u) ∧ NwI w B p k sv strs ls S (j + 1) (w5.setCell ⟨p, 0, none⟩ u) := by
  have k1 : Blk w5 p (SC wv sv ⟨#[]⟩ (.slice none 0 0) false) 85 := ((h1.alloc o).drew).kept hg (h1.not_row (by decide) h4)
  have k2 : Blk w5 (p + 1) #[.pointer (some ⟨p, 0, none⟩)] 26 := ((h2.alloc o).drew).kept hg (h2.not_row (by decide) h4)
  have k3 : w5.ownsRow w.heap.size 9 1 sv k (strs.map Value.string) := World.ownsRow.kept (show (W.alloc o).drew.ownsRow _ _ _ _ _ _ from h3.alloc o) hg (own_type_ne h3 h4 (by decide))
  have k5 : ∀ (x : Value) (n : Nat) (ys : List Value), W.ownsRow B 5 1 x n ys → (w5.setCell ⟨p, 0, none⟩ u).ownsRow B 5 1 x n ys := fun x n ys hx => by
    have := World.ownsRow.kept (show (W.alloc o).drew.ownsRow _ _ _ _ _ _ from hx.alloc o) hg (own_type_ne hx h4 (by decide))
    exact own_set_other this p 0 u (k1.not_row (by decide) this)
  have hb2 : Below w.heap.size w w5 := ⟨hb.os.trans h6.os, hb.tape.trans h6.tape, hb.output.trans h6.output, Nat.le_trans h6.size hb.size, fun i hi => (hb.block i (by omega)).trans (h6.block i hi)⟩
  have hln : vals.length = j := by have := h4.1; omega
  refine ⟨⟨Nat.le_trans hb.size (by simp), fun i h1 h2 _ => (Below.heap_setCell _ _ _ i (by simp; omega)).trans (hb.block i h2)⟩, u, vals ++ [v], k1.set 0 u, k2.other ⟨p, 0, none⟩ u (by simp), own_set_other k3 p 0 u (k1.not_row (by decide) k3), own_set_other os p 0 u (k1.not_row (by decide) os), ?_, hb2.setCell (p := ⟨p, 0, none⟩) hp u, Nat.le_trans h7 (by have := hb.size; simpa using this)⟩
  intro i x hi
  rcases Nat.lt_or_ge i j with hij | hij
  · rw [List.getElem?_append_left (by omega)] at hi
    exact ⟨k5 _ _ _ (h5 i x hi).1, (h5 i x hi).2⟩
  · rw [List.getElem?_append_right (by omega), hln] at hi
    have e : i = j := by
      rcases Nat.lt_or_ge (i - j) 1 with h | h
      · omega
      · rw [List.getElem?_eq_none (by simpa using h)] at hi; cases hi
    subst e
    simp at hi
    subst hi
    exact ⟨k5 _ _ _ ov, hq⟩

set_option maxRecDepth 100000 in
set_option maxHeartbeats 12000000 in
/-- New -/
theorem new_anyB (A A' S : Option Addr) (n m sn c c' sc : Nat) (bs : List Int) (ps : List (Int × Int)) (strs : List ByteArray) (w : World) (hv : Voc w A A' n m bs ps) (hwf : Wf bs ps) (hl : strs.length = sn) (hr : Rd w S (strs.map Value.string)) (hsn : sn ≤ 140737488355328) :
    Calls Try.prog 16 #[.agg #[.slice A n c, .slice A' m c'], .slice S sn sc] w (NewOutB w bs ps strs) := by
  have h0 : Below w.heap.size w (w.alloc (.cells #[.slice A n c, .slice A' m c'] 37)) := by go_grown
  have q0 := Blk.new w #[.slice A n c, .slice A' m c'] 37
  refine (callsIn_wide (n := 10)).1 ?_
  refine callsIn_of_wp_marks Try.func16 rfl trivial ?_ rfl
  simp only [Try.ntmps16, List.size_toArray, List.length_cons, List.length_nil, Nat.reduceAdd, Nat.reduceSub, Array.replicate_succ, Array.replicate_zero, List.push_toArray, List.append_toArray, List.nil_append, List.cons_append]
  gi_wp2_with fail
  refine ⟨trivial, ?_⟩
  refine (callsIn_wide.2 (check_any A A' n m c c' bs ps _ (hv.below h0) hwf)).mono ?_
  rintro e w1 ⟨rfl, hb⟩
  replace q0 := q0.below hb
  replace hb := bthen h0 hb
  have hM := q0.lt
  clear h0
  cases hq : vocF bs ps with
  | none =>
    have he := newE_voc (strs := strs) hq
    have he2 : errV bs ps = 50 := by unfold errV; rw [hq]; rfl
    rw [he2]
    have NO := Lib.hid (show NewOutB w bs ps strs (.returned (.tuple #[.pointer none, .int .i64 50])) w1 from ⟨hb, .inl ⟨by rw [he]; decide, by rw [he]⟩⟩)
    clear hq he he2
    gi_wp2
    refine ⟨_, results_tmp2 rfl _ _ _, ?_⟩
    exact NO.out
  | some ls =>
    have he2 : errV bs ps = 0 := by unfold errV; rw [hq]; rfl
    have HQ := Lib.hid hq
    rw [he2]
    clear hq he2
    by_cases h4 : 4 < sn
    · have he := newE_bad (strs := strs) HQ.out (.inl (by omega))
      have NO := Lib.hid (show NewOutB w bs ps strs (.returned (.tuple #[.pointer none, .int .i64 180])) w1 from ⟨hb, .inl ⟨by rw [he]; decide, by rw [he]⟩⟩)
      have g1 : (4 : Int) < (sn : Int) := by omega
      clear he
      gi_wp2
      refine ⟨_, results_tmp2 rfl _ _ _, ?_⟩
      exact NO.out
    · have g1 : ¬ (4 : Int) < (sn : Int) := by omega
      gi_wp2
      have hbA : Below w1.heap.size w1 ((w1.alloc (.cells (SC (.slice none 0 0) (.slice none 0 0) ⟨#[]⟩ (.slice none 0 0) false) 85)).alloc (.cells #[.pointer (some ⟨w1.heap.size, 0, none⟩)] 26)) := by go_grown
      have k1 : Blk ((w1.alloc (.cells (SC (.slice none 0 0) (.slice none 0 0) ⟨#[]⟩ (.slice none 0 0) false) 85)).alloc (.cells #[.pointer (some ⟨w1.heap.size, 0, none⟩)] 26)) w1.heap.size (SC (.slice none 0 0) (.slice none 0 0) ⟨#[]⟩ (.slice none 0 0) false) 85 := (Blk.new w1 _ 85).alloc _
      have k2 : Blk ((w1.alloc (.cells (SC (.slice none 0 0) (.slice none 0 0) ⟨#[]⟩ (.slice none 0 0) false) 85)).alloc (.cells #[.pointer (some ⟨w1.heap.size, 0, none⟩)] 26)) (w1.heap.size + 1) #[.pointer (some ⟨w1.heap.size, 0, none⟩)] 26 := by
        simpa using Blk.new (w1.alloc (.cells (SC (.slice none 0 0) (.slice none 0 0) ⟨#[]⟩ (.slice none 0 0) false) 85)) #[.pointer (some ⟨w1.heap.size, 0, none⟩)] 26
      have hb2 := bthen hb hbA
      have q2 := q0.below hbA
      have hP := hb.size
      clear hbA hb q0
      generalize ((w1.alloc (.cells (SC (.slice none 0 0) (.slice none 0 0) ⟨#[]⟩ (.slice none 0 0) false) 85)).alloc (.cells #[.pointer (some ⟨w1.heap.size, 0, none⟩)] 26)) = w2 at *
      generalize w1.heap.size = p at *
      have a1 : (⟨p, 0, none⟩ : Addr).add 1 = ⟨p, 1, none⟩ := by simpa using addr_add p 0 1
      gi_loopw [9, 24] (fun _ i wr => ∃ (k : Nat) (sv : Value), k ≤ sn ∧ i = .int .i64 (k : Int) ∧ Blk wr p (SC (.slice none 0 0) sv ⟨#[]⟩ (.slice none 0 0) false) 85 ∧ wr.ownsRow w.heap.size 9 1 sv k ((strs.take k).map Value.string) ∧ (∀ s ∈ strs.take k, ¬ badS s) ∧ Blk wr (p + 1) #[.pointer (some ⟨p, 0, none⟩)] 26 ∧ Blk wr w.heap.size #[.slice A n c, .slice A' m c'] 37 ∧ Below w.heap.size w wr) (fun _ i _ => sn - (intOf i).toNat)
      case atStart => exact ⟨0, _, by omega, rfl, k1, World.ownsRow_nil _ _ _ _, by simp, k2, q2, hb2⟩
      case round =>
        clear k1 k2 q2 hb2
        obtain ⟨k, sv, hk, rfl, k1, os, hgood, k2, q2, hb⟩ := hrel
        by_cases hlt : k < sn
        · have g2 : (k : Int) < (sn : Int) := by omega
          obtain ⟨b, of, rfl, y0⟩ := (hr.below hb).at k (by rw [List.length_map]; omega)
          rw [List.getElem_map] at y0
          have ea := addr_add b of k
          have TS := Lib.hid (List.take_succ_eq_append_getElem (show k < strs.length by omega))
          have GD := Lib.hid hgood
          have hmem : strs[k] ∈ strs := List.getElem_mem _
          have BD := Lib.hid (fun (h : badS (strs[k]'(by omega))) => newE_bad (strs := strs) HQ.out (.inr ⟨strs[k], hmem, h⟩))
          clear hgood hmem
          generalize strs[k] = st at *
          by_cases hz : st.size = 0
          · have hs0 : st.toList = [] := by rw [ByteArray.toList_eq]; exact List.length_eq_zero_iff.1 ((lst_length st).trans hz)
            have he := BD.out (.inl hz)
            have NO := Lib.hid (show NewOutB w bs ps strs (.returned (.tuple #[.pointer none, .int .i64 180])) wr from ⟨hb, .inl ⟨by rw [he]; decide, by rw [he]⟩⟩)
            clear he k1 os k2 q2
            gi_wp2
            refine ⟨_, results_tmp2 rfl _ _ _, ?_⟩
            exact NO.out
          · have hne : st.toList.isEmpty = false := by
              rw [ByteArray.toList_eq]
              cases hl : st.data.toList with
              | nil => exact absurd ((lst_length st).symm.trans (congrArg List.length hl)) hz
              | cons _ _ => rfl
            by_cases h16 : 16 < st.size
            · have g3 : (16 : Int) < (st.size : Int) := by omega
              have he := BD.out (.inr h16)
              have NO := Lib.hid (show NewOutB w bs ps strs (.returned (.tuple #[.pointer none, .int .i64 180])) wr from ⟨hb, .inl ⟨by rw [he]; decide, by rw [he]⟩⟩)
              clear he k1 os k2 q2
              gi_wp2
              refine ⟨_, results_tmp2 rfl _ _ _, ?_⟩
              exact NO.out
            · have g3 : ¬ (16 : Int) < (st.size : Int) := by omega
              have NB := Lib.hid (show ¬ badS st from fun h => by rcases h with h | h <;> omega)
              obtain ⟨sA, scp, rfl, _, _⟩ := own_rd os
              have y1 : wr.cell? ⟨p, 1, none⟩ = some (.slice sA k scp) := k1.cell _
              have y2 : wr.cell? ⟨p + 1, 0, none⟩ = some (.pointer (some ⟨p, 0, none⟩)) := k2.cell _
              have y1' : ((wr.alloc (.cells #[.string st] 9)).drew).cell? ⟨p, 1, none⟩ = some (.slice sA k scp) := ((k1.alloc _).drew).cell _
              have y2' : ((wr.alloc (.cells #[.string st] 9)).drew).cell? ⟨p + 1, 0, none⟩ = some (.pointer (some ⟨p, 0, none⟩)) := ((k2.alloc _).drew).cell _
              have hp1 := k1.lt
              have hp2 := k2.lt
              gi_wp2
              refine wpIn_wide.2 (wp_region_noPanic ?_)
              have hns := k1.not_row (by decide) os
              have hns2 := k2.not_row (by decide) os
              go_region_law ((refine appStep (w0 := w) w.heap.size rfl _ _ 38 9 (.string ⟨#[]⟩) 1 16 rfl Try.underlying38 info9 rfl (by decide) (by decide) (.slice sA k scp) k ((strs.take k).map Value.string) wr.heap.size #[.string st] rfl rfl rfl (by simp [Value.oneCell']) (Blk.new wr _ 9) (os.alloc _) (hb.alloc hb.size _).drew (by simp; have := hb.size; omega) (by omega) ?_; intro g cap w4 os4 hb4 hg4 hat4; have k4 := ((k1.alloc (.cells #[.string st] 9)).drew).kept hg4 hns; have z1 : w4.cell? ⟨p, 1, none⟩ = some (.slice sA k scp) := k4.cell _; have z2 := k4.frozen 1; have k5 := ((k2.alloc (.cells #[.string st] 9)).drew).kept hg4 hns2; have z3 : w4.cell? ⟨p + 1, 0, none⟩ = some (.pointer (some ⟨p, 0, none⟩)) := k5.cell _))
              all_goals
                refine NoPanic.normal ?_
                have k6 := k4.set 1 (.slice (some ⟨g, 0, none⟩) (k + 1) cap)
                have os6 := own_set_other os4 p 1 (.slice (some ⟨g, 0, none⟩) (k + 1) cap) (k4.not_row (by decide) os4)
                have k7 := k5.other ⟨p, 1, none⟩ (.slice (some ⟨g, 0, none⟩) (k + 1) cap) (by simp)
                have q7 := (((q2.alloc (.cells #[.string st] 9)).drew).kept hg4 (q2.not_row (by decide) os)).other ⟨p, 1, none⟩ (.slice (some ⟨g, 0, none⟩) (k + 1) cap) (by simp; omega)
                have hb7 := hb4.setCell (p := ⟨p, 1, none⟩) (by simp; omega) (.slice (some ⟨g, 0, none⟩) (k + 1) cap)
                clear k1 os k2 q2 hb y0 y1 y2 y1' y2' hp1 hp2 hns hns2 z1 z2 z3 k4 k5 os4 hb4 hg4 hat4
                gi_wp2
                go_roundw
                case rel => exact ⟨k + 1, _, by omega, by go_num, k6, by rw [TS.out, List.map_append]; exact os6, by rw [TS.out]; intro s hs; rcases List.mem_append.1 hs with h | h; exact GD.out s h; simp at h; rw [h]; exact NB.out, k7, q7, hb7⟩
                case measure => simp [intOf]; omega
        · obtain rfl : k = sn := by omega
          have hF : strs.take k = strs := List.take_of_length_le (by omega)
          rw [hF] at os hgood
          have GD := Lib.hid hgood
          clear hF hgood
          have y0 : wr.cell? ⟨w.heap.size, 0, none⟩ = some (.slice A n c) := q2.cell _
          have y1 : wr.cell? ⟨w.heap.size, 1, none⟩ = some (.slice A' m c') := q2.cell _
          gi_wp2_with fail
          refine ⟨trivial, ?_⟩
          refine (callsIn_wide.2 (all_any _ _ _ _ rfl)).mono ?_
          rintro e w4 ⟨rfl, q4, hbB⟩
          gi_wp2_with fail
          have hbC := bthen hb hbB
          replace k1 := k1.below hbB
          replace k2 := k2.below hbB
          replace os := own_below os hbB
          have hkl1 := k1.lt
          have hkl2 := k2.lt
          have hrl := q4.lt
          have hit := all_iters A A' n m c c' bs ps w4.heap.size wr.heap.size 9 w4 (hv.below hbC) hwf q4 (by decide)
          have hosl : ∀ q, sv.ownBlock = some q → q < w4.heap.size := fun q hq => (own_lt os q hq).2
          clear q2 y0 y1 hb hbB q4
          refine range_its1 11 (gf := 56) (lb := #[.pointer (some ⟨wr.heap.size, 0, none⟩)]) (N := (toks bs ps).length) (X := GivesS w4.heap.size (toks bs ps)) rfl (enters_of Try.func56 (by kernel_rfl) rfl) hit
            ?hps ?X
            (NwI0 w p k sv strs) (NwI w w4.heap.size p k sv strs (toks bs ps))
            NwX ?I0 ?Is ?I ?Ix ⟨k1, k2, os, hbC⟩ ?assign ?body ?done ?stop
          case hps =>
            rintro S j args W ⟨v, rfl, _⟩
            rfl
          case X =>
            rintro S j args W W' ⟨v, rfl, hv, hq⟩ hs
            exact ⟨v, rfl, own_sm hv hs, hq⟩
          case I0 =>
            rintro W W' ⟨h1, h2, h3, h4⟩ hs
            exact ⟨h1.sm hs, h2.sm hs, own_sm h3 hs, Below.sm h4 (by omega) (Nat.le_refl _) hs⟩
          case Is =>
            rintro W ⟨h1, h2, h3, h4⟩ hs
            exact ⟨_, [], h1, h2, h3, World.ownsRow_nil _ _ _ _, by simp, h4, Nat.le_refl _⟩
          case I =>
            rintro S j W W' ⟨wv, vals, h1, h2, h3, h4, h5, h6, h7⟩ hs
            exact ⟨wv, vals, h1.sm hs, h2.sm hs, own_sm h3 hs, own_sm h4 hs, fun i v hi => ⟨own_sm (h5 i v hi).1 hs, (h5 i v hi).2⟩, Below.sm h6 (by omega) (Nat.le_refl _) hs, Nat.le_trans h7 hs.size⟩
          case Ix =>
            rintro cd S j W W' h _
            exact h
          case assign =>
            rintro l S j args W K ⟨v, rfl, ov, _⟩ hK
            obtain ⟨va, vcp, rfl, _, _⟩ := own_rd ov
            simp at hK
            gi_wp2
            exact hK
          case stop =>
            rintro D cd S j W _ _ _ h _
            exact h.elim
          case done =>
            rintro D S W hD hDS ⟨wv, vals, h1, h2, h3, h4, h5, h6, h7⟩ hDd
            have y0 : W.cell? ⟨p + 1, 0, none⟩ = some (.pointer (some ⟨p, 0, none⟩)) := h2.cell _
            have hE0 := newE_ok HQ.out (by omega) GD.out
            gi_wp2_with fail
            refine leaves_marks w.heap.size [D] _ (by simp) (fun D' h => by simp at h; subst h; exact ⟨by have := hbC.size; omega, hDd⟩) ?_
            intro W4 hs
            exact ⟨_, results_tmp2 rfl _ _ _, Below.sm h6 (Nat.le_refl _) (Nat.le_refl _) hs, .inr ⟨hE0, p, hP, rfl, nw_staB hwf (h1.sm hs) (by rw [hl]; exact own_sm h3 hs) (own_sm h4 hs) (fun i v hi => own_sm (h5 i v hi).1 hs) (by omega) (fun s hs => by have := GD.out s hs; unfold badS at this; omega) (by have := hbC.size; omega) (by have := hbC.size; omega)⟩⟩
          case body =>
            rintro l S j args W ⟨wv, vals, h1, h2, h3, h4, h5, h6, h7⟩ ⟨v, rfl, ov, hq⟩ hj hS hSW
            have hj64 : j < 64 := by have := toks_len bs ps; omega
            have NX := fun (w5 : World) (u : Value) os hb (hg : ((W.alloc (.cells #[v] 34)).drew).grownBy w5 wv.ownBlock) => nwi_next (w5 := w5) (u := u) (o := .cells #[v] 34) h1 h2 h3 h4 h5 h6 h7 ov hq hP hkl2 (by omega : w4.heap.size ≤ S) os hb hg
            replace NX := Lib.hid NX
            have hs1 := h1.not_row (by decide) h4
            have hs2 := h2.not_row (by decide) h4
            obtain ⟨wA, wcp, rfl, _, _⟩ := own_rd h4
            obtain ⟨va, vcp, rfl, _, _⟩ := own_rd ov
            have y1 : W.cell? ⟨p, 0, none⟩ = some (.slice wA j wcp) := h1.cell _
            have y2 : W.cell? ⟨p + 1, 0, none⟩ = some (.pointer (some ⟨p, 0, none⟩)) := h2.cell _
            have y1' : ((W.alloc (.cells #[.slice va (tok (toks bs ps) j).length vcp] 34)).drew).cell? ⟨p, 0, none⟩ = some (.slice wA j wcp) := ((h1.alloc _).drew).cell _
            have y2' : ((W.alloc (.cells #[.slice va (tok (toks bs ps) j).length vcp] 34)).drew).cell? ⟨p + 1, 0, none⟩ = some (.pointer (some ⟨p, 0, none⟩)) := ((h2.alloc _).drew).cell _
            have hp1 := h1.lt
            have hp2 := h2.lt
            have a0 : (⟨p, 0, none⟩ : Addr).add 0 = ⟨p, 0, none⟩ := by simpa using addr_add p 0 0
            clear h3 h5 h6 ov hq hit hosl os k1 k2 hr hv GD
            simp
            gi_wp2
            refine region_round (by kernel_rfl) (by kernel_rfl) (fun ⟨_, _, h⟩ => h) ?_
            repeat' (first
              | (with_reducible show wpAny _ _ _ _ _ _ _ _
                 first
                | refine wpAny_done (by decide +kernel) ?_ _
                | refine wpAny_take (i := 5) (v := .slice va (tok (toks bs ps) j).length vcp) rfl (by kernel_rfl) (by decide +kernel) (by decide +kernel) (fun _ _ _ h => h) (Or.inl ⟨by rfl, by intro w; go_simp; done⟩) ?_
                | refine wpAny_take (i := 2) (v := .pointer (some ⟨p, 0, none⟩)) rfl (by kernel_rfl) (by decide +kernel) (by decide +kernel) (fun _ _ _ h => h) (Or.inl ⟨by rfl, by intro w; go_simp; done⟩) ?_
                | refine wpAny_take (i := 3) (v := .pointer (some ⟨p, 0, none⟩)) rfl (by kernel_rfl) (by decide +kernel) (by decide +kernel) (fun _ _ _ h => h) (Or.inl ⟨by rfl, by intro w; go_simp; done⟩) ?_
                | refine wpAny_take (i := 8) (v := .pointer (some ⟨p, 0, none⟩)) rfl (by kernel_rfl) (by decide +kernel) (by decide +kernel) (fun _ _ _ h => h) (Or.inl ⟨by rfl, by intro w; go_simp; done⟩) ?_
                | refine wpAny_take (i := 9) (v := .pointer (some ⟨p, 0, none⟩)) rfl (by kernel_rfl) (by decide +kernel) (by decide +kernel) (fun _ _ _ h => h) (Or.inl ⟨by rfl, by intro w; go_simp; done⟩) ?_
                | refine wpAny_ready (rs := [0, 1, 6]) (by decide +kernel) (by simp) ?_
                | refine wpAny_ready (rs := [1, 6]) (by decide +kernel) (by simp) ?_
                | refine wpAny_ready (rs := [0, 4, 6]) (by decide +kernel) (by simp) ?_
                | refine wpAny_ready (rs := [0, 1]) (by decide +kernel) (by simp) ?_
                | refine wpAny_ready (rs := [4, 6]) (by decide +kernel) (by simp) ?_
                | refine wpAny_ready (rs := [0, 4]) (by decide +kernel) (by simp) ?_
                | refine wpAny_ready (rs := [0, 6]) (by decide +kernel) (by simp) ?_
                | refine wpAny_ready (rs := [0, 7]) (by decide +kernel) (by simp) ?_
                | refine wpAny_ready (rs := [1]) (by decide +kernel) (by simp) ?_
                | refine wpAny_ready (rs := [4]) (by decide +kernel) (by simp) ?_
                | refine wpAny_ready (rs := [6]) (by decide +kernel) (by simp) ?_
                | refine wpAny_ready (rs := [7]) (by decide +kernel) (by simp) ?_
                | refine wpAny_ready (rs := [0]) (by decide +kernel) (by simp) ?_
                | refine wpAny_ready (rs := [10]) (by decide +kernel) (by simp) ?_
                )
              | (with_reducible show AllReady _ _ _ _ _ _ _ _ _
                 first | exact AllReady.nil | (refine AllReady.cons rfl (fun K hK => ?_) ?_))
              | (with_reducible show ite _ _ _
                 first
                 | (refine appStep (w0 := W) S rfl _ _ 30 34 (.slice none 0 0) 1 24 rfl Try.underlying30 info34 rfl (by decide) (by decide) (.slice wA j wcp) j vals W.heap.size #[.slice va (tok (toks bs ps) j).length vcp] rfl rfl rfl (by simp [Value.oneCell']) (Blk.new W _ 34) (h4.alloc _) ((Below.refl S W).alloc hSW _).drew (by simp; omega) (by omega) ?_; intro g cap w5 os5 hb5 hg5 hat5; have k4 := ((h1.alloc (.cells #[.slice va (tok (toks bs ps) j).length vcp] 34)).drew).kept hg5 hs1; have z1 : w5.cell? ⟨p, 0, none⟩ = some (.slice wA j wcp) := k4.cell _; have z2 := k4.frozen 0; have k5 := ((h2.alloc (.cells #[.slice va (tok (toks bs ps) j).length vcp] 34)).drew).kept hg5 hs2; have z3 : w5.cell? ⟨p + 1, 0, none⟩ = some (.pointer (some ⟨p, 0, none⟩)) := k5.cell _; refine hK _ _ ?_; clear hK K)
                 | (go_simp; refine hK _ _ ?_; clear hK K)))
            all_goals exact NX.out _ _ os5 hb5 hg5
/-- New, without where its words lie -/
theorem new_any (A A' S : Option Addr) (n m sn c c' sc : Nat) (bs : List Int) (ps : List (Int × Int)) (strs : List ByteArray) (w : World) (hv : Voc w A A' n m bs ps) (hwf : Wf bs ps) (hl : strs.length = sn) (hr : Rd w S (strs.map Value.string)) (hsn : sn ≤ 140737488355328) :
    Calls Try.prog 16 #[.agg #[.slice A n c, .slice A' m c'], .slice S sn sc] w (NewOut w bs ps strs) := by
  refine (new_anyB A A' S n m sn c c' sc bs ps strs w hv hwf hl hr hsn).mono ?_
  rintro e w' ⟨hb, (h | ⟨h0, p, hp, he, hs⟩)⟩
  · exact ⟨hb, .inl h⟩
  · exact ⟨hb, .inr ⟨h0, p, hp, he, hs.strm⟩⟩
end Go.Proofs.Ytcambbnmeiolgaa
