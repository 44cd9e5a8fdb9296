import Derived.Test.YtcambbnmeiolgaaCaG
import Derived.Test.YtcambbnmeiolgaaCaF
namespace Go.Proofs.Ytcambbnmeiolgaa
open Go.RowKit
/-! gives: a call, its bytes as they came -/
/-- what a call does to the program's streams, and its bytes -/
def gy (x : Nat → Option Ss) (o : OpT) (k : Nat) : (Nat → Option Ss) × List Int :=
  if o.kind = 2 then (upK x k (fo (x k) o.l).1, (fo (x k) o.l).2.1)
  else if o.kind = 3 then (upK x k (co (x k)).1, (co (x k)).2)
  else if o.kind = 1 then (upK x k (newS o.bs o.ps o.strs), []) else (x, [])
def GvOut (col : Nat → Nat) (c : Nat) (W : World) (q : Nat) (lv mv : Value) (N : Nat) (vl vm : List Value) (y : (Nat → Option Ss) × List Int) (B : Nat) (en : Ending) (w' : World) : Prop :=
  ∃ u, en = .returned u ∧ w'.ownsRow W.heap.size 5 1 u y.2.length (B8 y.2) ∧ ∃ col' pv' rv' sr', Wd col' c w' q pv' rv' lv mv N vl vm y.1 sr' B ∧ (∀ j, j < W.heap.size → col' j = col j) ∧ (∀ j, u.ownBlock = some j → col' j = 50) ∧ Kp (Mine col c) W w'
set_option maxRecDepth 100000 in
set_option maxHeartbeats 4000000 in
theorem gives_op {col : Nat → Nat} {c : Nat} {W : World} {q : Nat} {pv rv : Nat → Value} {lv mv : Value} {N : Nat} {vl vm : List Value} {sp sr : Nat → Option Ss} {B : Nat} (h : Wd col c W q pv rv lv mv N vl vm sp sr B) (o : OpT) (hop : ∀ w', Kp (Mine col c) W w' → OpOk w' o) (k : Nat) (hk : k < 2) (ho : bits .and .i64 o.on 1 = (k : Int)) (hc12 : c ≤ 12) :
    Calls Try.prog 42 #[.pointer (some ⟨q, 0, none⟩), (.agg (opC o))] W (GvOut col c W q lv mv N vl vm (gy sp o k) B) := by
  have hb0 : Below W.heap.size W (W.alloc (.cells (opC o) 41)) := by go_grown
  have q0 := Blk.new W (opC o) 41
  have hz0 : (W.alloc (.cells (opC o) 41)).heap.size = W.heap.size + 1 := by simp
  have g1 : (k : Int) < 2 := by omega
  have a0 : (⟨q, 0, none⟩ : Addr).add k = ⟨q, k, none⟩ := by simpa using addr_add q 0 k
  have b5 : (⟨W.heap.size, 0, none⟩ : Addr).add 5 = ⟨W.heap.size, 5, none⟩ := by simpa using addr_add W.heap.size 0 5
  have OP := Lib.hid hop
  have OPB := Lib.hid (fun w' (hb : Below W.heap.size W w') => hop w' (.of_below hb))
  have hop0 := hop W (Kp.refl _ _)
  have hkb := hop0.kb
  have KL := Lib.hid hop0.kl
  have h0 := h.below (col' := colR col W 50) hb0 (fun j hj => colR_old hj)
  have H0 := Lib.hid h0
  have x0 : (W.alloc (.cells (opC o) 41)).cell? ⟨q, k, none⟩ = some (pv k) := (h0.bk.cell _).trans (wc_at hk).1
  have xW : W.cell? ⟨q, k, none⟩ = some (pv k) := (h.bk.cell _).trans (wc_at hk).1
  clear h0 hop hop0
  by_cases h2 : o.kind = 2
  · have GY := Lib.hid (show gy sp o k = (upK sp k (fo (sp k) o.l).1, (fo (sp k) o.l).2.1) from if_pos h2)
    rw [GY.out]
    have e2 : (o.kind == 2) = true := by simpa using h2
    have x0' : (W.alloc (.cells (opC o) 41)).drew.cell? ⟨q, k, none⟩ = some (pv k) := x0
    have CI := Lib.hid (copyInts_any o.K o.kn o.kc o.l KL.out (by omega) (W.alloc (.cells (opC o) 41)).drew (OPB.out _ hb0.drew).k)
    go_enter Try.func42, Try.ntmps42
    go_wp2
    go_region_law (first
      | ((fail_if_success (have := hb1)); (try go_simp); go_at_call 52; refine CI.out.mono ?_; rintro en w1 ⟨cl, rfl, ocl, hb1⟩; obtain ⟨cA, cc, rfl, _, _⟩ := own_rd ocl; have H1 := H0.out.below (col' := colR col W 50) (bthen (Below.refl _ _).drew hb1) (fun j hj => rfl); have x1 : w1.cell? ⟨q, k, none⟩ = some (pv k) := (H1.bk.cell _).trans (wc_at hk).1)
      | ((try go_simp); go_at_call 18; refine (H1.feedP hk cA o.kn cc o.l KL.out hkb (own_rdv ocl) (fun b o2 he hp => mine_50 hc12 (by have := own_lt ocl b (by rw [he]; rfl); have h9 : (W.alloc (.cells (opC o) 41)).drew.heap.size = W.heap.size + 1 := hz0; omega))).mono ?_; rintro en w2 ⟨u2, rfl, ou2, hs2, hk2⟩; obtain ⟨uA2, uc2, rfl, _, _⟩ := own_rd ou2))
    all_goals
      have hzd : (W.alloc (.cells (opC o) 41)).drew.heap.size = W.heap.size + 1 := hz0
      have hz1 := hb1.size
      have OUT := Lib.hid (show GvOut col c W q lv mv N vl vm (upK sp k (fo (sp k) o.l).1, (fo (sp k) o.l).2.1) B (.returned (.slice uA2 (fo (sp k) o.l).2.1.length uc2)) w2 from
        ⟨_, rfl, own_base ou2 (by omega), _, pv, rv, sr, hs2 (colR (colR col W 50) w1 50) (fun j hj => colR_old hj), fun j hj => by rw [colR_old (by omega), colR_old hj], fun j hj => colR_new (own_lt ou2 j hj).1, ((Kp.of_below (bthen (hb0.drew) hb1)).step hk2 (fun j hj hm => (mine_eq (colR_old hj)).1 hm))⟩)
      clear ou2 hs2 hk2 H1 ocl hb1
      go_wp2
      go_returns
      exact OUT.out
  · by_cases h3 : o.kind = 3
    · have GY := Lib.hid (show gy sp o k = (upK sp k (co (sp k)).1, (co (sp k)).2) by unfold gy; rw [if_neg h2, if_pos h3])
      rw [GY.out]
      have e2 : (o.kind == 2) = false := by simpa using h2
      have e3 : (o.kind == 3) = true := by simpa using h3
      clear h2 h3
      go_enter Try.func42, Try.ntmps42
      go_wp2_with fail
      refine (H0.out.closeP hk).mono ?_
      rintro en w2 ⟨u2, rfl, ou2, hs2, hk2⟩
      have OUT := Lib.hid (show GvOut col c W q lv mv N vl vm (upK sp k (co (sp k)).1, (co (sp k)).2) B (.returned u2) w2 from
        ⟨_, rfl, own_base ou2 (by omega), _, pv, rv, sr, hs2 (colR (colR col W 50) (W.alloc (.cells (opC o) 41)) 50) (fun j hj => colR_old hj), fun j hj => by rw [colR_old (by omega), colR_old hj], fun j hj => colR_new (own_lt ou2 j hj).1, ((Kp.of_below hb0).step hk2 (fun j hj hm => (mine_eq (colR_old hj)).1 hm))⟩)
      clear ou2 hs2 hk2
      go_wp2
      go_returns
      exact OUT.out
    · have e2 : (o.kind == 2) = false := by simpa using h2
      have e3 : (o.kind == 3) = false := by simpa using h3
      have DO : Calls Try.prog 13 #[.pointer (some ⟨q, 0, none⟩), (.agg (opC o))] (W.alloc (.cells (opC o) 41)) fun en w' => ∃ b, en = .returned b ∧ GvOut col c W q lv mv N vl vm (gy sp o k) B (.returned (.slice none 0 0)) w' := by
        have fin : ∀ w', Below W.heap.size W w' → GvOut col c W q lv mv N vl vm (sp, []) B (.returned (.slice none 0 0)) w' := fun w' hb =>
          ⟨_, rfl, World.ownsRow_nil _ _ _ _, colR col W 50, pv, rv, sr, h.below hb (fun j hj => colR_old hj), fun j hj => colR_old hj, fun j hj => by simp [Value.ownBlock] at hj, .of_below hb⟩
        by_cases h1 : o.kind = 1
        · refine (does_new H0.out o (fun w' hk' => OP.out w' ((Kp.of_below hb0).step hk' (fun j hj hm => (mine_eq (colR_old hj)).1 hm))) h1 k hk ho hc12).mono ?_
          rintro en w' ⟨rfl, col', pv', rv', hW, hold, hkp⟩
          refine ⟨_, rfl, ?_⟩
          rw [show gy sp o k = (upK sp k (newS o.bs o.ps o.strs), []) by unfold gy; rw [if_neg h2, if_neg h3, if_pos h1]]
          exact ⟨_, rfl, World.ownsRow_nil _ _ _ _, col', pv', rv', _, hW, fun j hj => (hold j (by omega)).trans (colR_old hj), fun j hj => by simp [Value.ownBlock] at hj, (Kp.of_below hb0).step hkp (fun j hj hm => (mine_eq (colR_old hj)).1 hm)⟩
        · rw [show gy sp o k = (sp, []) by unfold gy; rw [if_neg h2, if_neg h3, if_neg h1]]
          by_cases h4 : o.kind = 4
          · refine (does_over H0.out o h4 k hk ho).mono ?_
            rintro en w' ⟨rfl, hb⟩
            exact ⟨_, rfl, fin w' (bthen hb0 hb)⟩
          · refine (does_other _ q o h1 h2 h3 h4).mono ?_
            rintro en w' ⟨rfl, hb⟩
            exact ⟨_, rfl, fin w' (bthen hb0 hb)⟩
      have D := Lib.hid DO
      clear DO h2 h3 h
      go_enter Try.func42, Try.ntmps42
      go_wp2_with fail
      refine D.out.mono ?_
      rintro en w' ⟨b, rfl, hG⟩
      have HG := Lib.hid hG
      clear hG
      go_wp2
      go_returns
      exact HG.out
end Go.Proofs.Ytcambbnmeiolgaa
namespace Go.Proofs.Ytcambbnmeiolgaa
open Go.RowKit
/-! strewn: scripts, and rows of bytes that were handed out -/
/-- a script that came in -/
def ScOk (w : World) (X : Option Addr) (os : List OpT) : Prop :=
  ∀ (i : Nat) (hi : i < os.length), ∃ b o, X = some ⟨b, o, none⟩ ∧ (∀ j, j < 6 → w.cell? ⟨b, o + i * 6 + j, none⟩ = (opC os[i])[j]?) ∧ OpOk w os[i]
theorem ScOk.below {w w' : World} {X : Option Addr} {os : List OpT} (h : ScOk w X os) (hb : Below w.heap.size w w') : ScOk w' X os := fun i hi => by
  obtain ⟨b, o, h1, h2, h3⟩ := h i hi
  refine ⟨b, o, h1, fun j hj => ?_, h3.below hb⟩
  have h4 := h2 j hj
  rw [Array.getElem?_eq_getElem hj] at h4 ⊢
  rw [World.cell?_of_block (w := w) (hb.block b (World.block_lt_of_cell? w _ h4))]
  exact h4
/-- the streams behind the first i calls -/
def gyN (os : List OpT) : Nat → Nat → Option Ss
  | 0 => fun _ => none
  | i + 1 => match os[i]? with
    | none => gyN os i
    | some o => (gy (gyN os i) o (bits .and .i64 o.on 1).toNat).1
/-- rows that were handed out -/
structure Rws (W : World) (col : Nat → Nat) (lsv : Value) (n : Nat) (vals : List Value) (Ls : List (List Int)) : Prop where
  ls : W.ownsRow 0 34 1 lsv n vals
  lc : ∀ k, lsv.ownBlock = some k → col k = 50
  ln : Ls.length = n
  rw : ∀ (i : Nat) (v : Value) (l : List Int), vals[i]? = some v → Ls[i]? = some l → W.ownsRow 0 5 1 v l.length (B8 l) ∧ (∀ k, v.ownBlock = some k → col k = 50) ∧ l.length ≤ 1099511627776
  ap : ∀ (i j : Nat) (v v' : Value), i ≠ j → vals[i]? = some v → vals[j]? = some v' → ∀ k, v.ownBlock = some k → v'.ownBlock ≠ some k
theorem Rws.kp {W W' : World} {col col' : Nat → Nat} {lsv : Value} {n c : Nat} {vals : List Value} {Ls : List (List Int)} (h : Rws W col lsv n vals Ls) (hc12 : c ≤ 12) (hk : Kp (Mine col c) W W') (hc : ∀ j, j < W.heap.size → col' j = col j) : Rws W' col' lsv n vals Ls := by
  have key : ∀ {e : TypeId} {m : Nat} {v : Value} {xs : List Value}, W.ownsRow 0 e 1 v m xs → (∀ k, v.ownBlock = some k → col k = 50) → W'.ownsRow 0 e 1 v m xs := fun ho h5 => ownKp ho hk (fun q hq hm => by have := h5 q hq; unfold Mine at hm; omega)
  have kc : ∀ {e : TypeId} {m : Nat} {v : Value} {xs : List Value}, W.ownsRow 0 e 1 v m xs → (∀ k, v.ownBlock = some k → col k = 50) → ∀ k, v.ownBlock = some k → col' k = 50 := fun ho h5 k hk2 => (hc k (own_lt ho k hk2).2).trans (h5 k hk2)
  exact ⟨key h.ls h.lc, kc h.ls h.lc, h.ln, fun i v l hv hl => by obtain ⟨h1, h2, h3⟩ := h.rw i v l hv hl; exact ⟨key h1 h2, kc h1 h2, h3⟩, h.ap⟩
theorem Rws.below {W W' : World} {col col' : Nat → Nat} {lsv : Value} {n : Nat} {vals : List Value} {Ls : List (List Int)} (h : Rws W col lsv n vals Ls) (hb : Below W.heap.size W W') (hc : ∀ j, j < W.heap.size → col' j = col j) : Rws W' col' lsv n vals Ls :=
  h.kp (c := 0) (by omega) (.of_below hb) hc
/-- two more -/
theorem Rws.push {W W1 : World} {col : Nat → Nat} {lsv ls2 a b : Value} {n : Nat} {vals : List Value} {Ls : List (List Int)} {O : List Int} (h : Rws W col lsv n vals Ls) (oa : W.ownsRow 0 5 1 a O.length (B8 O)) (ob : W.ownsRow 0 5 1 b O.length (B8 O)) (ca : ∀ k, a.ownBlock = some k → col k = 50 ∧ ∀ (i : Nat) (v : Value), vals[i]? = some v → v.ownBlock ≠ some k) (cb : ∀ k, b.ownBlock = some k → col k = 50 ∧ (∀ (i : Nat) (v : Value), vals[i]? = some v → v.ownBlock ≠ some k) ∧ a.ownBlock ≠ some k) (hO : O.length ≤ 1099511627776)
    (os : W1.ownsRow 0 34 1 ls2 (n + 2) (vals ++ [a, b])) (hg : W.grownBy W1 lsv.ownBlock) (hat : ls2.ownBlock = lsv.ownBlock ∨ ∀ k, ls2.ownBlock = some k → W.heap.size ≤ k) : Rws W1 (colR col W 50) ls2 (n + 2) (vals ++ [a, b]) (Ls ++ [O, O]) := by
  have hvl : vals.length = n := by have := h.ls.1; omega
  have key : ∀ {m : Nat} {v : Value} {xs : List Value}, W.ownsRow 0 5 1 v m xs → W1.ownsRow 0 5 1 v m xs := fun ho => ho.kept hg (own_type_ne ho h.ls (by decide))
  have kc : ∀ {e : TypeId} {m : Nat} {v : Value} {xs : List Value}, W.ownsRow 0 e 1 v m xs → (∀ k, v.ownBlock = some k → col k = 50) → ∀ k, v.ownBlock = some k → colR col W 50 k = 50 := fun ho h5 k hk2 => (colR_old (own_lt ho k hk2).2).trans (h5 k hk2)
  have split : ∀ (i : Nat) (v : Value), (vals ++ [a, b])[i]? = some v → (i < n ∧ vals[i]? = some v) ∨ (i = n ∧ v = a) ∨ (i = n + 1 ∧ v = b) := fun i v hv => by
    rcases Nat.lt_or_ge i n with hi | hi
    · rw [List.getElem?_append_left (by omega)] at hv; exact .inl ⟨hi, hv⟩
    · rw [List.getElem?_append_right (by omega)] at hv
      obtain ⟨z, hz⟩ : ∃ z, i - vals.length = z := ⟨_, rfl⟩
      rw [hz] at hv
      match z, hv with
      | 0, hv => simp at hv; exact .inr (.inl ⟨by omega, hv.symm⟩)
      | 1, hv => simp at hv; exact .inr (.inr ⟨by omega, hv.symm⟩)
      | z + 2, hv => simp at hv
  refine ⟨os, fun k hk => ?_, by rw [List.length_append, h.ln]; rfl, fun i v l hv hl => ?_, fun i j v v' hij hv hv' => ?_⟩
  · rcases hat with e | e
    · rw [e] at hk
      exact (colR_old (own_lt h.ls k hk).2).trans (h.lc k hk)
    · exact colR_new (e k hk)
  · rcases split i v hv with ⟨hi, hv⟩ | ⟨rfl, rfl⟩ | ⟨rfl, rfl⟩
    · rw [List.getElem?_append_left (by rw [h.ln]; omega)] at hl
      obtain ⟨h1, h2, h3⟩ := h.rw i v l hv hl
      exact ⟨key h1, kc h1 h2, h3⟩
    · rw [List.getElem?_append_right (by rw [h.ln]; omega), h.ln, Nat.sub_self] at hl
      simp at hl
      subst hl
      exact ⟨key oa, kc oa (fun k hk => (ca k hk).1), hO⟩
    · rw [List.getElem?_append_right (by rw [h.ln]; omega), h.ln, show n + 1 - n = 1 by omega] at hl
      simp at hl
      subst hl
      exact ⟨key ob, kc ob (fun k hk => (cb k hk).1), hO⟩
  · rcases split i v hv with ⟨hi, gv⟩ | ⟨hi, rfl⟩ | ⟨hi, rfl⟩ <;> rcases split j v' hv' with ⟨hj, gv'⟩ | ⟨hj, rfl⟩ | ⟨hj, rfl⟩
    · exact h.ap i j v v' hij gv gv'
    · exact fun k hk e => (ca k e).2 i v gv hk
    · exact fun k hk e => (cb k e).2.1 i v gv hk
    · exact fun k hk e => (ca k hk).2 j v' gv' e
    · omega
    · exact fun k hk e => (cb k e).2.2 hk
    · exact fun k hk e => (cb k hk).2.1 j v' gv' e
    · exact fun k hk e => (cb k hk).2.2 e
    · omega
theorem gy_len {x : Nat → Option Ss} {o : OpT} {k : Nat} (hx : ∀ s, x k = some s → SsOk s) (ho : o.l.length ≤ 1048576) : (gy x o k).2.length ≤ 1099511627776 := by
  unfold gy
  split
  · show (fo (x k) o.l).2.1.length ≤ _
    cases hq : x k with
    | none => simp [fo]
    | some s =>
      have hs := hx s hq
      show (if okTs (toks s.bs s.ps).length o.l then _ else _ : Option Ss × List Int × Int).2.1.length ≤ _
      split
      · have := (feedU_len (s.strs.map lst) (toks s.bs s.ps) hs.sl (fun x hx => (hs.w16 x hx).1) o.l (s.t, [], s.e) hs.t18).2
        have h18 := hs.t18
        simp only [List.length_nil] at this
        show (feedU (s.strs.map lst) (toks s.bs s.ps) (s.t, [], s.e) o.l).2.1.length ≤ _
        omega
      · simp
  · split
    · show (co (x k)).2.length ≤ _
      cases hq : x k with
      | none => simp [co]
      | some s =>
        have hs := (hx s hq).t18
        show (endU (s.t, [], s.e)).2.1.length ≤ _
        unfold endU
        split
        · simp
        · simp [bI_length]; omega
    · split <;> simp
theorem Wd.oks {col : Nat → Nat} {c : Nat} {W : World} {q : Nat} {pv rv : Nat → Value} {lv mv : Value} {N : Nat} {vl vm : List Value} {sp sr : Nat → Option Ss} {B : Nat} (h : Wd col c W q pv rv lv mv N vl vm sp sr B) {k : Nat} (hk : k < 2) : ∀ s, sp k = some s → SsOk s := fun s hs => by
  have := h.P k hk
  rw [hs] at this
  exact this.1
/-- two Worlds, and what they gave -/
structure Stw (w W : World) (col : Nat → Nat) (q1 q2 : Nat) (lsv : Value) (n : Nat) (vals : List Value) (Ls : List (List Int)) (X : Nat → Option Ss) : Prop where
  one : ∃ pv rv sr, Wd col 0 W q1 pv rv (.slice none 0 0) (.slice none 0 0) 0 [] [] X sr 0
  two : ∃ pv rv sr, Wd col 12 W q2 pv rv (.slice none 0 0) (.slice none 0 0) 0 [] [] X sr 0
  rw : Rws W col lsv n vals Ls
  lo : ∀ j, j < w.heap.size → col j = 50
  bl : Below w.heap.size w W
  ll : ∀ k, lsv.ownBlock = some k → w.heap.size ≤ k
  vl : ∀ v ∈ vals, ∀ k, v.ownBlock = some k → w.heap.size ≤ k
end Go.Proofs.Ytcambbnmeiolgaa
namespace Go.Proofs.Ytcambbnmeiolgaa
open Go.RowKit
theorem Stw.start (w : World) : Stw w ((w.alloc (.cells (WC (.pointer none) (.pointer none) (.pointer none) (.pointer none) (.slice none 0 0) (.slice none 0 0)) 32)).alloc (.cells (WC (.pointer none) (.pointer none) (.pointer none) (.pointer none) (.slice none 0 0) (.slice none 0 0)) 32)) (fun j => if j = w.heap.size then 0 else if j = w.heap.size + 1 then 12 else 50) w.heap.size (w.heap.size + 1) (.slice none 0 0) 0 [] [] (fun _ => none) := by
  have k1 := (Blk.new w (WC (.pointer none) (.pointer none) (.pointer none) (.pointer none) (.slice none 0 0) (.slice none 0 0)) 32).alloc (.cells (WC (.pointer none) (.pointer none) (.pointer none) (.pointer none) (.slice none 0 0) (.slice none 0 0)) 32)
  have k2 : Blk ((w.alloc (.cells (WC (.pointer none) (.pointer none) (.pointer none) (.pointer none) (.slice none 0 0) (.slice none 0 0)) 32)).alloc (.cells (WC (.pointer none) (.pointer none) (.pointer none) (.pointer none) (.slice none 0 0) (.slice none 0 0)) 32)) (w.heap.size + 1) (WC (.pointer none) (.pointer none) (.pointer none) (.pointer none) (.slice none 0 0) (.slice none 0 0)) 32 := by
    simpa using Blk.new (w.alloc (.cells (WC (.pointer none) (.pointer none) (.pointer none) (.pointer none) (.slice none 0 0) (.slice none 0 0)) 32)) (WC (.pointer none) (.pointer none) (.pointer none) (.pointer none) (.slice none 0 0) (.slice none 0 0)) 32
  have nb : ∀ k, (Value.slice none 0 0).ownBlock ≠ some k := fun k h => by simp [Value.ownBlock] at h
  refine ⟨⟨fun _ => .pointer none, fun _ => .pointer none, fun _ => none, k1, by simp, fun _ _ => rfl, fun _ _ => rfl, World.ownsRow_nil _ _ _ _, World.ownsRow_nil _ _ _ _, fun k h => absurd h (nb k), fun k h => absurd h (nb k), fun i x y h => by simp at h⟩, ⟨fun _ => .pointer none, fun _ => .pointer none, fun _ => none, k2, by simp, fun _ _ => rfl, fun _ _ => rfl, World.ownsRow_nil _ _ _ _, World.ownsRow_nil _ _ _ _, fun k h => absurd h (nb k), fun k h => absurd h (nb k), fun i x y h => by simp at h⟩, ⟨World.ownsRow_nil _ _ _ _, fun k h => absurd h (nb k), rfl, fun i v l h => by simp at h, fun i j v v' _ h => by simp at h⟩, fun j hj => ?_, by go_grown, fun k h => absurd h (nb k), fun v hv => by simp at hv⟩
  rw [if_neg (by omega), if_neg (by omega)]
theorem mine_lo {w W W' : World} {col : Nat → Nat} {c : Nat} (hc12 : c ≤ 12) (hlo : ∀ j, j < w.heap.size → col j = 50) (hb : Below w.heap.size w W) (hk : Kp (Mine col c) W W') : Below w.heap.size w W' :=
  ((Kp.of_below (S := fun _ => False) hb).step hk (fun j hj hm => by have := hlo j hj; unfold Mine at hm; omega)).noneS (fun _ _ h => h)
/-- one of the two Worlds was called -/
theorem Stw.called {w W W' : World} {col col' : Nat → Nat} {lsv : Value} {n : Nat} {vals : List Value} {Ls : List (List Int)} (hrw : Rws W col lsv n vals Ls) (hlo : ∀ j, j < w.heap.size → col j = 50) (hb : Below w.heap.size w W) {c : Nat} (hc12 : c ≤ 12) (hold : ∀ j, j < W.heap.size → col' j = col j) (hk : Kp (Mine col c) W W') :
    Rws W' col' lsv n vals Ls ∧ (∀ j, j < w.heap.size → col' j = 50) ∧ Below w.heap.size w W' :=
  ⟨hrw.kp hc12 hk hold, fun j hj => (hold j (Nat.lt_of_lt_of_le hj hb.size)).trans (hlo j hj), mine_lo hc12 hlo hb hk⟩
end Go.Proofs.Ytcambbnmeiolgaa
namespace Go.Proofs.Ytcambbnmeiolgaa
open Go.RowKit
/-! strewn: the rows are marked, and grown -/
def rowC (w : World) (lsv : Value) (vals : List Value) (M : Nat) : Nat → Nat := fun z => if z < w.heap.size then M + 3 else if lsv.ownBlock = some z then M + 1 else vals.findIdx (fun v => decide (v.ownBlock = some z))
/-- what the rows' owner may change lies behind w -/
structure Ph2 (w W : World) (cl : Nat → Nat) (lsv : Value) (M : Nat) (vals : List Value) (lens : List Nat) (i : Nat) : Prop where
  ls : W.ownsRow 0 34 1 lsv M vals
  lc : ∀ z, lsv.ownBlock = some z → cl z = M + 1
  nl : lens.length = M
  lo : ∀ z, z < w.heap.size → cl z = M + 3
  row : ∀ (j : Nat) (v : Value) (len : Nat), vals[j]? = some v → lens[j]? = some len → len ≤ 1099511627776 ∧ (∀ z, v.ownBlock = some z → cl z = j) ∧ ∃ l, l.length = len ∧ W.ownsRow 0 5 1 v len (B8 l) ∧ (j < i → l = mk1 j len)
  bl : Below w.heap.size w W
theorem Stw.ph2 {w W : World} {col : Nat → Nat} {q1 q2 : Nat} {lsv : Value} {n : Nat} {vals : List Value} {Ls : List (List Int)} {X : Nat → Option Ss} (h : Stw w W col q1 q2 lsv n vals Ls X) : Ph2 w W (rowC w lsv vals n) lsv n vals (Ls.map List.length) 0 := by
  have hvl : vals.length = n := by have := h.rw.ls.1; omega
  refine ⟨h.rw.ls, fun z hz => ?_, by rw [List.length_map]; exact h.rw.ln, fun z hz => by unfold rowC; rw [if_pos hz], fun j v len hv hlen => ?_, h.bl⟩
  · have := h.ll z hz
    unfold rowC
    rw [if_neg (by omega), if_pos hz]
  · obtain ⟨l, hl, rfl⟩ : ∃ l, Ls[j]? = some l ∧ l.length = len := by
      rw [List.getElem?_map] at hlen
      cases hq : Ls[j]? with
      | none => rw [hq] at hlen; cases hlen
      | some l => rw [hq] at hlen; injection hlen with hlen; exact ⟨l, rfl, hlen⟩
    obtain ⟨h1, h2, h3⟩ := h.rw.rw j v l hv hl
    refine ⟨h3, fun z hz => ?_, l, rfl, h1, fun hj => by omega⟩
    have hjl : j < vals.length := by
      rcases Nat.lt_or_ge j vals.length with hh | hh
      · exact hh
      · rw [List.getElem?_eq_none hh] at hv; cases hv
    have hvj : vals[j] = v := by rw [List.getElem?_eq_getElem hjl] at hv; injection hv
    have hzl := h.vl v (List.mem_of_getElem? hv) z hz
    unfold rowC
    rw [if_neg (by omega), if_neg (row_ne h.rw.ls h1 z hz), List.findIdx_eq hjl]
    refine ⟨by rw [hvj]; exact decide_eq_true hz, fun i hi => decide_eq_false (fun e => ?_)⟩
    exact h.rw.ap i j _ v (by omega) (List.getElem?_eq_getElem (by omega)) hv z e hz
theorem lt_of_some {α : Type} {l : List α} {i : Nat} {a : α} (h : l[i]? = some a) : i < l.length := by
  rcases Nat.lt_or_ge i l.length with hh | hh
  · exact hh
  · rw [List.getElem?_eq_none hh] at h; cases h
/-- row i is marked -/
theorem Ph2.next {w W W' : World} {cl : Nat → Nat} {lsv : Value} {M : Nat} {vals : List Value} {lens : List Nat} {i : Nat} (h : Ph2 w W cl lsv M vals lens i) {v : Value} {len : Nat} (hv : vals[i]? = some v) (hl : lens[i]? = some len) (ho : W'.ownsRow 0 5 1 v len (B8 (mk1 i len))) (hk : Kp (fun z => v.ownBlock = some z) W W') : Ph2 w W' cl lsv M vals lens (i + 1) := by
  obtain ⟨_, hc, l0, _, ho0, _⟩ := h.row i v len hv hl
  have hiM := lt_of_some hl
  refine ⟨ownKp h.ls hk (fun z hz e => row_ne h.ls ho0 z e hz), h.lc, h.nl, h.lo, fun j v' len' hv' hl' => ?_, (h.bl |> fun hb => ((Kp.of_below (S := fun _ => False) hb).step hk (fun z hz e => ?_)).noneS (fun _ _ h => h))⟩
  · obtain ⟨h1, h2, l, h3, h4, h5⟩ := h.row j v' len' hv' hl'
    by_cases hji : j = i
    · subst hji
      rw [hv] at hv'
      injection hv' with hv'
      subst hv'
      rw [hl] at hl'
      injection hl' with hl'
      subst hl'
      exact ⟨h1, h2, mk1 j len, mk1_length _ _, ho, fun _ => rfl⟩
    · refine ⟨h1, h2, l, h3, ownKp h4 hk (fun z hz e => ?_), fun hj => h5 (by omega)⟩
      have := hc z e
      have := h2 z hz
      omega
  · have := h.lo z hz
    have := hc z e
    have := h.nl
    omega
/-- the rows are grown, up to i -/
structure Ph3 (w W : World) (cl : Nat → Nat) (lsv : Value) (M : Nat) (vals : List Value) (lens : List Nat) (mv : Value) (mvals : List Value) (i : Nat) : Prop where
  ls : W.ownsRow 0 34 1 lsv M vals
  lc : ∀ z, lsv.ownBlock = some z → cl z = M + 1
  nl : lens.length = M
  lo : ∀ z, z < w.heap.size → cl z = M + 3
  mo : W.ownsRow 0 34 1 mv i mvals
  mc : ∀ z, mv.ownBlock = some z → cl z = M + 2
  row : ∀ (j : Nat) (v : Value) (len : Nat), vals[j]? = some v → lens[j]? = some len → len ≤ 1099511627776 ∧ (∃ A c, v = .slice A len c ∧ Rp (fun z => cl z = j) W A (B8 (mk1 j len))) ∧ (i ≤ j → W.ownsRow 0 5 1 v len (B8 (mk1 j len)) ∧ ∀ z, v.ownBlock = some z → cl z = j)
  mrow : ∀ (j : Nat) (v : Value) (len : Nat), mvals[j]? = some v → lens[j]? = some len → ∃ A c, v = .slice A (len + 64) c ∧ Rp (fun z => cl z = j) W A (B8 (mk2 j len 64))
  bl : Below w.heap.size w W
theorem Ph2.ph3 {w W : World} {cl : Nat → Nat} {lsv : Value} {M : Nat} {vals : List Value} {lens : List Nat} (h : Ph2 w W cl lsv M vals lens M) : Ph3 w W cl lsv M vals lens (.slice none 0 0) [] 0 := by
  refine ⟨h.ls, h.lc, h.nl, h.lo, World.ownsRow_nil _ _ _ _, fun z hz => by simp [Value.ownBlock] at hz, fun j v len hv hl => ?_, fun j v len hv => by simp at hv, h.bl⟩
  obtain ⟨h1, h2, l, h3, h4, h5⟩ := h.row j v len hv hl
  have hj := lt_of_some hl
  have := h.nl
  obtain rfl := h5 (by omega)
  obtain ⟨A, c, rfl, _, _⟩ := own_rd h4
  exact ⟨h1, ⟨A, c, rfl, own_rp h4 _ (fun b hb => h2 b hb)⟩, fun _ => ⟨h4, h2⟩⟩
/-- what was read at A is read there still, behind an append -/
theorem rd_app {W W1 : World} {A : Option Addr} {gv : Value} {g nn cap : Nat} {xs r : List Int} (hA : A = none ∨ ∃ u, A = some ⟨u, 0, none⟩) (RA : Rd W A (B8 xs)) (os : W1.ownsRow 0 5 1 (.slice (some ⟨g, 0, none⟩) nn cap) nn (B8 (xs ++ r))) (hc : (gv.ownBlock = some g ∧ W.grownBy W1 (some g)) ∨ (W.heap.size ≤ g ∧ W.grownBy W1 none)) : Rd W1 A (B8 xs) := by
  rcases hc with ⟨_, hg⟩ | ⟨_, hg⟩
  · rcases hA with rfl | ⟨u, rfl⟩
    · rcases RA with h0 | ⟨_, _, h0, _⟩
      · exact .inl h0
      · cases h0
    · by_cases hug : u = g
      · subst hug
        have := own_rdv os
        rw [show B8 (xs ++ r) = B8 xs ++ B8 r by simp [B8]] at this
        exact Rd.pre this
      · rcases RA with h0 | ⟨b, o, h1, hcl⟩
        · exact .inl h0
        · injection h1 with h1
          injection h1 with e1 e2
          subst e1 e2
          refine .inr ⟨u, 0, rfl, fun i hi => ?_⟩
          have h5 := hcl i hi
          rw [List.getElem?_eq_getElem hi] at h5 ⊢
          exact hg.cell h5 (fun he => hug (by injection he))
  · exact RA.below ⟨hg.os, hg.tape, hg.output, hg.size, fun k hk => hg.block k hk (by simp)⟩
/-- row i is grown, and laid behind the others -/
theorem Ph3.next {w W W2 W5 : World} {cl : Nat → Nat} {lsv : Value} {M : Nat} {vals : List Value} {lens : List Nat} {mv mv' : Value} {mvals : List Value} {i : Nat} (h : Ph3 w W cl lsv M vals lens mv mvals i) {A : Option Addr} {c : Nat} {len : Nat} {gv : Value} (hv : vals[i]? = some (.slice A len c)) (hl : lens[i]? = some len)
    (hk : Kp (fun z => (Value.slice A len c).ownBlock = some z) W W2) (og : W2.ownsRow 0 5 1 gv (len + 64) (B8 (mk2 i len 64))) (gb : ∀ z, gv.ownBlock = some z → (Value.slice A len c).ownBlock = some z ∨ W.heap.size ≤ z) (RA : Rd W2 A (B8 (mk1 i len)))
    (os : W5.ownsRow 0 34 1 mv' (i + 1) (mvals ++ [gv])) (hg : W2.grownBy W5 mv.ownBlock) (hat : mv'.ownBlock = mv.ownBlock ∨ ∀ z, mv'.ownBlock = some z → W2.heap.size ≤ z) :
    Ph3 w W5 (fun z => if z < W.heap.size then cl z else if z < W2.heap.size then i else M + 2) lsv M vals lens mv' (mvals ++ [gv]) (i + 1) := by
  obtain ⟨hlen, _, hrow⟩ := h.row i _ len hv hl
  obtain ⟨ho0, hc0⟩ := hrow (Nat.le_refl _)
  have hnl := h.nl
  have hiM := lt_of_some hl
  have hz2 := hk.size
  have hz5 := hg.size
  have hmn := h.mo.1
  have k5 := Kp.of_grown hg
  have old : ∀ z, z < W.heap.size → (fun z => if z < W.heap.size then cl z else if z < W2.heap.size then i else M + 2) z = cl z := fun z hz => if_pos hz
  have mk2' : W2.ownsRow 0 34 1 mv i mvals := ownKp h.mo hk (fun z hz e => by have := h.mc z hz; have := hc0 z e; omega)
  have move : ∀ {B : Option Addr} {vs : List Value} {j : Nat}, j ≠ i → j < M → Rp (fun z => cl z = j) W B vs → Rp (fun z => (fun z => if z < W.heap.size then cl z else if z < W2.heap.size then i else M + 2) z = j) W5 B vs := fun {B vs j} hji hjM hr => by
    have r1 : Rp (fun z => z < W.heap.size ∧ cl z = j) W B vs := hr.mono (fun b hb hp => ⟨hb, hp⟩)
    refine ((r1.kp hk (fun b _ hp hs => ?_)).kp k5 (fun b _ hp hs => ?_)).mono (fun b _ hp => (old b hp.1).trans hp.2)
    · have := hc0 b hs; have := hp.2; omega
    · have := h.mc b hs; have := hp.2; omega
  refine ⟨(ownKp h.ls hk (fun z hz e => by have := h.lc z hz; have := hc0 z e; omega)).kept hg ?_, fun z hz => (old z (own_lt h.ls z hz).2).trans (h.lc z hz), h.nl, fun z hz => ?_, os, fun z hz => ?_, fun j v len' hv' hl' => ?_, fun j v len' hv' hl' => ?_, ?_⟩
  · cases hq : lsv.ownBlock with
    | none => exact .inl rfl
    | some z => exact .inr (fun e => by have := h.lc z hq; have := h.mc z e.symm; omega)
  · have := h.bl.size
    exact (old z (by omega)).trans (h.lo z hz)
  · rcases hat with e | e
    · rw [e] at hz
      exact (old z (own_lt h.mo z hz).2).trans (h.mc z hz)
    · have := e z hz
      show (if z < W.heap.size then cl z else if z < W2.heap.size then i else M + 2) = M + 2
      rw [if_neg (by omega), if_neg (by omega)]
  · obtain ⟨h1, ⟨A', c', rfl, hr⟩, h3⟩ := h.row j v len' hv' hl'
    have hjM := lt_of_some hl'
    by_cases hji : j = i
    · subst hji
      rw [hv] at hv'
      rw [hl] at hl'
      injection hl' with hl'
      subst hl'
      injection hv' with hv'
      injection hv' with e1 _ e2
      subst e1 e2
      refine ⟨h1, ⟨A, c, rfl, ?_⟩, fun hj => by omega⟩
      have r1 : Rp (fun z => z < W.heap.size ∧ cl z = j) W2 A (B8 (mk1 j len)) := by
        rcases RA with h0 | ⟨b, o, e1, hcl⟩
        · exact .inl h0
        · subst e1
          exact .inr ⟨b, o, rfl, ⟨(own_lt ho0 b rfl).2, hc0 b rfl⟩, hcl⟩
      refine (r1.kp k5 (fun b _ hp hs => ?_)).mono (fun b _ hp => (old b hp.1).trans hp.2)
      have := h.mc b hs; have := hp.2; omega
    · refine ⟨h1, ⟨A', c', rfl, move hji (by omega) hr⟩, fun hj => ?_⟩
      obtain ⟨h4, h5⟩ := h3 (by omega)
      refine ⟨(ownKp h4 hk (fun z hz e => by have := h5 z hz; have := hc0 z e; omega)).kept hg ?_, fun z hz => (old z (own_lt h4 z hz).2).trans (h5 z hz)⟩
      cases hq : (Value.slice A' len' c').ownBlock with
      | none => exact .inl rfl
      | some z => exact .inr (fun e => by have := h5 z hq; have := h.mc z e.symm; omega)
  · have hjM := lt_of_some hl'
    rcases Nat.lt_or_ge j i with hj | hj
    · rw [List.getElem?_append_left (by omega)] at hv'
      obtain ⟨A', c', e1, hr⟩ := h.mrow j v len' hv' hl'
      exact ⟨A', c', e1, move (by omega) (by omega) hr⟩
    · rw [List.getElem?_append_right (by omega)] at hv'
      obtain ⟨y, hy⟩ : ∃ y, j - mvals.length = y := ⟨_, rfl⟩
      rw [hy] at hv'
      match y, hy, hv' with
      | 0, hy, hv' =>
        simp at hv'
        subst hv'
        have hji : j = i := by omega
        subst hji
        rw [hl] at hl'
        injection hl' with hl'
        subst hl'
        obtain ⟨gA, gc, rfl, _, _⟩ := own_rd og
        refine ⟨gA, gc, rfl, ?_⟩
        have og5 := og.kept hg (own_type_ne og mk2' (by decide))
        refine own_rp og5 _ (fun b hb => ?_)
        rcases gb b hb with e | e
        · exact (old b (own_lt ho0 b e).2).trans (hc0 b e)
        · have := (own_lt og b hb).2
          show (if b < W.heap.size then cl b else if b < W2.heap.size then j else M + 2) = j
          rw [if_neg (by omega), if_pos this]
      | y + 1, hy, hv' => simp at hv'
  · refine (((Kp.of_below (S := fun _ => False) h.bl).step hk (fun z hz e => ?_)).step k5 (fun z hz e => ?_)).noneS (fun _ _ h => h)
    · have := h.lo z hz; have := hc0 z e; omega
    · have := h.lo z hz; have := h.mc z e; omega
end Go.Proofs.Ytcambbnmeiolgaa
namespace Go.Proofs.Ytcambbnmeiolgaa
open Go.RowKit
set_option maxRecDepth 100000 in
set_option maxHeartbeats 8000000 in
theorem strewn_any (X : Option Addr) (n c : Nat) (os : List OpT) (w : World) (hn : os.length = n) (hn2 : n ≤ 1048576) (hS : ScOk w X os) :
    Calls Try.prog 15 #[.slice X n c] w fun en w' => en = .returned (.bool true) ∧ Below w.heap.size w w' := by
  have SC := Lib.hid hS
  have ST := Stw.start w
  clear hS
  go_enter Try.func15, Try.ntmps15
  go_wp2
  generalize ((w.alloc (.cells (WC (.pointer none) (.pointer none) (.pointer none) (.pointer none) (.slice none 0 0) (.slice none 0 0)) 32)).alloc (.cells (WC (.pointer none) (.pointer none) (.pointer none) (.pointer none) (.slice none 0 0) (.slice none 0 0)) 32)) = w0 at *
  go_loopw [5, 6, 7, 8, 9] (fun lsv iv _ _ _ wr => ∃ (i : Nat) (col : Nat → Nat) (vals : List Value) (Ls : List (List Int)), i ≤ n ∧ iv = .int .i64 (i : Int) ∧ Stw w wr col w.heap.size (w.heap.size + 1) lsv (2 * i) vals Ls (gyN os i)) (fun _ iv _ _ _ _ => n - (intOf iv).toNat)
  case atStart => exact ⟨0, _, [], [], by omega, rfl, ST⟩
  case round =>
    clear ST
    obtain ⟨i, col, vals, Ls, hi, rfl, hT⟩ := hrel
    by_cases hlt : i < n
    · have g1 : (i : Int) < (n : Int) := by omega
      obtain ⟨lsA, lsc, rfl, _, _⟩ := own_rd hT.rw.ls
      obtain ⟨⟨pv1, rv1, sr1, h1⟩, ⟨pv2, rv2, sr2, h2⟩, hrw, hlo, hbl, hll, hvl⟩ := hT
      have LL := Lib.hid hll
      have VL := Lib.hid hvl
      clear hll hvl
      have hio : i < os.length := by omega
      obtain ⟨b, oo, rfl, hcl, hop⟩ := SC.out i hio
      have GN := Lib.hid (show gyN os (i + 1) = (gy (gyN os i) (os[i]'hio) (bits .and .i64 (os[i]'hio).on 1).toNat).1 by
        show (match os[i]? with | none => gyN os i | some o => (gy (gyN os i) o (bits .and .i64 o.on 1).toNat).1) = _
        rw [List.getElem?_eq_getElem hio])
      have HOP := Lib.hid (fun w' (hb : Below w.heap.size w w') => hop.below hb)
      have hkb := hop.kb
      have hkl := hop.kl
      have YC := Lib.hid (fun w' (hb : Below w.heap.size w w') (j : Nat) (hj : j < 6) => (show w'.cell? ⟨b, oo + i * 6 + j, none⟩ = (opC (os[i]'hio))[j]? by
        have h4 := hcl j hj
        rw [Array.getElem?_eq_getElem hj] at h4 ⊢
        rw [World.cell?_of_block (w := w) (hb.block b (World.block_lt_of_cell? w _ h4))]
        exact h4))
      have hop : True := trivial
      generalize (os[i]'hio) = op at *
      obtain ⟨k, hk, hbk⟩ := on_k op.on
      have HBK := Lib.hid hbk
      rw [hbk, Int.toNat_natCast] at GN
      have ea := addr_add b oo (i * 6)
      have y0 : wr.cell? ⟨b, oo + i * 6, none⟩ = some (.int .i64 op.kind) := YC.out wr hbl 0 (by omega)
      have y1 : wr.cell? ⟨b, oo + i * 6 + 1, none⟩ = some (.int .i64 op.on) := YC.out wr hbl 1 (by omega)
      have y2 : wr.cell? ⟨b, oo + i * 6 + 2, none⟩ = some (.slice op.A op.n op.a) := YC.out wr hbl 2 (by omega)
      have y3 : wr.cell? ⟨b, oo + i * 6 + 3, none⟩ = some (.slice op.A' op.m op.a') := YC.out wr hbl 3 (by omega)
      have y4 : wr.cell? ⟨b, oo + i * 6 + 4, none⟩ = some (.slice op.S op.sn op.sc) := YC.out wr hbl 4 (by omega)
      have y5 : wr.cell? ⟨b, oo + i * 6 + 5, none⟩ = some (.slice op.K op.kn op.kc) := YC.out wr hbl 5 (by omega)
      have HOL := Lib.hid (gy_len (o := op) (h1.oks hk) (by omega))
      have H1 := Lib.hid h1
      have H2 := Lib.hid h2
      have RW := Lib.hid hrw
      have LO := Lib.hid hlo
      have HBL := Lib.hid hbl
      clear h1 h2 hrw hlo hcl hop hbk hbl
      go_wp2_with fail
      refine (gives_op H1.out op (fun w' hk' => HOP.out w' (mine_lo (c := 0) (by omega) LO.out HBL.out hk')) k hk HBK.out (by omega)).mono ?_
      rintro en w1 ⟨u1, rfl, ou1, col1, pv1', rv1', sr1', h1, hold1, hc1, hk1⟩
      obtain ⟨rw1, lo1, bl1⟩ := Stw.called RW.out LO.out HBL.out (c := 0) (by omega) hold1 hk1
      have h2 := H2.out.kp (col' := col1) hk1 (fun j _ hm hm2 => by unfold Mine at hm hm2; omega) (fun j hj _ => hold1 j hj)
      obtain ⟨uA, uc, rfl, _, _⟩ := own_rd ou1
      clear y0 y1 y2 y3 y4 y5
      have y0 : w1.cell? ⟨b, oo + i * 6, none⟩ = some (.int .i64 op.kind) := YC.out w1 bl1 0 (by omega)
      have y1 : w1.cell? ⟨b, oo + i * 6 + 1, none⟩ = some (.int .i64 op.on) := YC.out w1 bl1 1 (by omega)
      have y2 : w1.cell? ⟨b, oo + i * 6 + 2, none⟩ = some (.slice op.A op.n op.a) := YC.out w1 bl1 2 (by omega)
      have y3 : w1.cell? ⟨b, oo + i * 6 + 3, none⟩ = some (.slice op.A' op.m op.a') := YC.out w1 bl1 3 (by omega)
      have y4 : w1.cell? ⟨b, oo + i * 6 + 4, none⟩ = some (.slice op.S op.sn op.sc) := YC.out w1 bl1 4 (by omega)
      have y5 : w1.cell? ⟨b, oo + i * 6 + 5, none⟩ = some (.slice op.K op.kn op.kc) := YC.out w1 bl1 5 (by omega)
      have K1 := Lib.hid h1
      have K2 := Lib.hid h2
      have RW1 := Lib.hid rw1
      have LO1 := Lib.hid lo1
      have BL1 := Lib.hid bl1
      have OU1 := Lib.hid ou1
      have HC1 := Lib.hid hc1
      have HK1 := Lib.hid hk1
      clear h1 h2 rw1 lo1 bl1 ou1 hold1 hc1 hk1
      go_wp2_with fail
      refine (gives_op K2.out op (fun w' hk' => HOP.out w' (mine_lo (c := 12) (by omega) LO1.out BL1.out hk')) k hk HBK.out (by omega)).mono ?_
      rintro en w2 ⟨u2, rfl, ou2, col2, pv2', rv2', sr2', h2, hold2, hc2, hk2⟩
      obtain ⟨rw2, lo2, bl2⟩ := Stw.called RW1.out LO1.out BL1.out (c := 12) (by omega) hold2 hk2
      have h1 := K1.out.kp (col' := col2) hk2 (fun j _ hm hm2 => by unfold Mine at hm hm2; omega) (fun j hj _ => hold2 j hj)
      obtain ⟨vA, vc, rfl, _, _⟩ := own_rd ou2
      have ou1 := ownKp OU1.out hk2 (fun j hj hm => by have := HC1.out j hj; unfold Mine at hm; omega)
      clear y0 y1 y2 y3 y4 y5
      have hO := HOL.out
      have ca : ∀ j, (Value.slice uA (gy (gyN os i) op k).2.length uc).ownBlock = some j → wr.heap.size ≤ j ∧ j < w1.heap.size ∧ col2 j = 50 := fun j hj => ⟨(own_lt OU1.out j hj).1, (own_lt OU1.out j hj).2, (hold2 j (own_lt OU1.out j hj).2).trans (HC1.out j hj)⟩
      have cb : ∀ j, (Value.slice vA (gy (gyN os i) op k).2.length vc).ownBlock = some j → w1.heap.size ≤ j ∧ col2 j = 50 := fun j hj => ⟨(own_lt ou2 j hj).1, hc2 j hj⟩
      have hz1 := HK1.out.size
      have hz2 := hk2.size
      have cv : ∀ (j : Nat) (v : Value), vals[j]? = some v → ∀ z, v.ownBlock = some z → z < wr.heap.size := fun j v hv z hz => by
        have hvl : vals.length = 2 * i := by have := RW.out.ls.1; omega
        have hjl : j < vals.length := by
          rcases Nat.lt_or_ge j vals.length with h | h
          · exact h
          · rw [List.getElem?_eq_none h] at hv; cases hv
        have hl : Ls[j]? = some (Ls[j]'(by rw [RW.out.ln]; omega)) := List.getElem?_eq_getElem _
        exact (own_lt (RW.out.rw j v _ hv hl).1 z hz).2
      generalize hO2 : (gy (gyN os i) op k).2 = O at *
      clear hO2
      have CA := Lib.hid ca
      have CB := Lib.hid cb
      have CV := Lib.hid cv
      have N1 := Lib.hid h1
      have N2 := Lib.hid h2
      have RW2 := Lib.hid rw2
      have LO2 := Lib.hid lo2
      have BL2 := Lib.hid bl2
      clear h1 h2 rw2 lo2 bl2 hold2 hc2 hk2 ca cb cv HOL
      go_wp2_with fail
      refine (eqBytes_any uA vA O.length O.length uc vc O O rfl rfl (by omega) w2 (own_rdv ou1) (own_rdv ou2)).mono ?_
      rintro en w3 ⟨rfl, hb3⟩
      rw [decide_eq_true (rfl : O = O)]
      have hz3 := hb3.size
      have oa3 := own_base (own_below ou1 hb3) (Nat.zero_le _)
      have ob3 := own_base (own_below ou2 hb3) (Nat.zero_le _)
      have rw3 := RW2.out.below (col' := colR col2 w2 50) hb3 (fun j hj => colR_old hj)
      clear ou1 ou2
      have hbA : Below w3.heap.size w3 (w3.alloc (.cells #[.slice uA O.length uc, .slice vA O.length vc] 34)) := (Below.refl _ _).alloc (Nat.le_refl _) _
      have rwA := rw3.below (col' := colR col2 w2 50) hbA (fun j hj => rfl)
      have oaA := own_below oa3 hbA
      have obA := own_below ob3 hbA
      have rdA := blk_rd (Blk.new w3 #[.slice uA O.length uc, .slice vA O.length vc] 34) (xs := [.slice uA O.length uc, .slice vA O.length vc]) rfl
      have HB3 := Lib.hid (bthen hb3 hbA)
      have RWA := Lib.hid rwA
      have OAA := Lib.hid oaA
      have OBA := Lib.hid obA
      have hzA : (w3.alloc (.cells #[.slice uA O.length uc, .slice vA O.length vc] 34)).heap.size = w3.heap.size + 1 := by simp
      have oLs := rwA.ls
      clear rwA oaA obA oa3 ob3 rw3 hb3 hbA
      go_wp2_with (at_builtin; refine appRow (w0 := w3.alloc (.cells #[.slice uA O.length uc, .slice vA O.length vc] 34)) 0 rfl _ _ 30 34 (.slice none 0 0) 24 rfl Try.underlying30 info34 rfl (by decide) (.slice lsA (2 * i) lsc) (2 * i) vals (some ⟨w3.heap.size, 0, none⟩) 2 2 [.slice uA O.length uc, .slice vA O.length vc] rfl rfl rfl (by simp [Value.oneCell']) rdA oLs (Below.refl _ _) (Nat.zero_le _) (by omega) ?_; intro v5 w5 os5 hb5 hg5 hat5)
      have NEW := Lib.hid (show Stw w w5 (colR (colR col2 w2 50) (w3.alloc (.cells #[.slice uA O.length uc, .slice vA O.length vc] 34)) 50) w.heap.size (w.heap.size + 1) v5 (2 * (i + 1)) (vals ++ [.slice uA O.length uc, .slice vA O.length vc]) (Ls ++ [O, O]) (gyN os (i + 1)) from by
        have hR := RWA.out.push OAA.out OBA.out (fun z hz => ?_) (fun z hz => ?_) hO os5 hg5 (hat5.elim .inl (fun e => .inr (fun z hz => by rw [e] at hz; injection hz with hz; omega)))
        · have hkp := Kp.of_grown hg5
          have hcl := RWA.out.lc
          have e2 : 2 * (i + 1) = 2 * i + 2 := by omega
          rw [GN.out, e2]
          refine ⟨⟨_, _, _, (N1.out.below (col' := colR col2 w2 50) HB3.out (fun j hj => colR_old hj)).kp hkp (fun j hj hs hm => by have := hcl j hs; unfold Mine at hm; omega) (fun j hj _ => colR_old hj)⟩, ⟨_, _, _, (N2.out.below (col' := colR col2 w2 50) HB3.out (fun j hj => colR_old hj)).kp hkp (fun j hj hs hm => by have := hcl j hs; unfold Mine at hm; omega) (fun j hj _ => colR_old hj)⟩, hR, fun j hj => ?_, ?_, fun z hz => ?_, fun v hv z hz => ?_⟩
          · have := BL2.out.size
            rw [colR_old (by omega), colR_old (by omega)]
            exact LO2.out j hj
          · refine ((Kp.of_below (S := fun _ => False) (bthen BL2.out HB3.out)).step hkp (fun j hj hs => ?_)).noneS (fun _ _ h => h)
            have h1 := LL.out j hs
            omega
          · have h1 := BL2.out.size
            rcases hat5 with e | e
            · rw [e] at hz; exact LL.out z hz
            · rw [e] at hz; injection hz with hz; omega
          · have h0 := HBL.out.size
            rcases List.mem_append.1 hv with hv | hv
            · exact VL.out v hv z hz
            · rcases List.mem_cons.1 hv with hv | hv
              · subst hv; have := CA.out z hz; omega
              · rw [List.mem_singleton.1 hv] at hz; have := CB.out z hz; omega
        · obtain ⟨h1, h2, h3⟩ := CA.out z hz
          refine ⟨(colR_old (by omega)).trans h3, fun j v hv e => ?_⟩
          have := CV.out j v hv z e
          omega
        · obtain ⟨h1, h2⟩ := CB.out z hz
          refine ⟨?_, fun j v hv e => ?_, fun e => ?_⟩
          · rcases Nat.lt_or_ge z w2.heap.size with h | h
            · exact (colR_old h).trans h2
            · exact colR_new h
          · have := CV.out j v hv z e
            omega
          · have := CA.out z e
            omega)
      clear os5 hb5 hg5 hat5 oLs rdA
      go_roundw
      case rel => exact ⟨i + 1, _, _, _, by omega, by go_num, NEW.out⟩
      case measure => simp [intOf]; omega
    · obtain rfl : i = n := by omega
      obtain ⟨lsA, lsc, rfl, _, _⟩ := own_rd hT.rw.ls
      have P2 := hT.ph2
      obtain ⟨M, hM⟩ : ∃ M, 2 * i = M := ⟨_, rfl⟩
      rw [hM] at P2
      have hM2 : M ≤ 2097152 := by omega
      generalize hls : (Value.slice lsA (2 * i) lsc) = lsv at *
      rw [hM] at hls
      subst hls
      generalize Ls.map List.length = lens at *
      generalize rowC w (Value.slice lsA M lsc) vals M = cl at *
      have hvl : vals.length = M := by have := P2.ls.1; omega
      clear hT
      clear hM
      go_wp2
      go_loopw [10, 11] (fun iv _ wr => ∃ k : Nat, k ≤ M ∧ iv = .int .i64 (k : Int) ∧ Ph2 w wr cl (.slice lsA M lsc) M vals lens k) (fun iv _ _ => M - (intOf iv).toNat)
      case atStart => exact ⟨0, by omega, rfl, P2⟩
      case round =>
        clear P2
        obtain ⟨k, hk, rfl, P2⟩ := hrel
        by_cases hkl : k < M
        · have g1 : (k : Int) < (M : Int) := by omega
          obtain ⟨v, hv⟩ : ∃ v, vals[k]? = some v := ⟨_, List.getElem?_eq_getElem (by omega)⟩
          obtain ⟨len, hl⟩ : ∃ len, lens[k]? = some len := ⟨_, List.getElem?_eq_getElem (by rw [P2.nl]; exact hkl)⟩
          obtain ⟨hlen, hcl, l0, hl0, ho, _⟩ := P2.row k v len hv hl
          obtain ⟨A, a, rfl, _, _⟩ := own_rd ho
          have hvk : vals[k]'(by omega) = .slice A len a := by rw [List.getElem?_eq_getElem (by omega)] at hv; injection hv
          obtain ⟨lb, lo, rfl, y0⟩ := (own_rdv P2.ls).at k (by omega)
          rw [hvk] at y0
          have ea := addr_add lb lo k
          generalize wr = wO at *
          have YL := Lib.hid (show ∀ w', Kp (fun z => (Value.slice A len a).ownBlock = some z) wO w' → w'.cell? ⟨lb, lo + k, none⟩ = some (.slice A len a) from fun w' hk2 => by
            obtain ⟨b2, o2, he, hy⟩ := (own_rdv (ownKp P2.ls hk2 (fun z hz e => row_ne P2.ls ho z e hz))).at k (by omega)
            injection he with he
            injection he with e1 e2
            subst e1 e2
            rw [hy, hvk])
          have PP2 := Lib.hid P2
          clear P2 hcl hvk
          go_wp2
          clear y0
          go_loopw [11] (fun jv wr2 => ∃ (j : Nat) (l : List Int), j ≤ len ∧ jv = .int .i64 (j : Int) ∧ l.length = len ∧ l.take j = mk1 k j ∧ wr2.ownsRow 0 5 1 (.slice A len a) len (B8 l) ∧ Kp (fun z => (Value.slice A len a).ownBlock = some z) wO wr2) (fun jv _ => len - (intOf jv).toNat)
          case atStart => exact ⟨0, l0, by omega, rfl, hl0, by simp [mk1], ho, Kp.refl _ _⟩
          case round =>
            clear ho
            obtain ⟨j, l, hj, rfl, hll, htk, ho, hk2⟩ := hrel
            have y0 := YL.out wr hk2
            have TK := Lib.hid htk
            have HLL := Lib.hid hll
            clear htk
            by_cases hlt : j < len
            · have g2 : (j : Int) < (len : Int) := by omega
              obtain ⟨g, hg⟩ : ∃ g, A = some ⟨g, 0, none⟩ := by
                rcases ho.2 with ⟨_, h0⟩ | ⟨g, _, _, he, _⟩
                · omega
                · injection he with he _ _
                  exact ⟨g, he⟩
              subst hg
              have y1 : wr.cell? ⟨g, j, none⟩ = some (.int .u8 (l[j]'(by omega))) := by
                obtain ⟨g2, o2, he, hy⟩ := (own_rdv ho).b8 j (by omega)
                injection he with he
                injection he with e1 e2
                subst e1 e2
                rwa [Nat.zero_add] at hy
              have z1 := World.ownsRow.frozenAt ho j
              have y0' : wr.drew.cell? ⟨lb, lo + k, none⟩ = some (.slice (some ⟨g, 0, none⟩) len a) := y0
              have y1' : wr.drew.cell? ⟨g, j, none⟩ = some (.int .u8 (l[j]'(by omega))) := y1
              have z1' : wr.drew.frozen? ⟨g, j, none⟩ = false := z1
              have eg : (⟨g, 0, none⟩ : Addr).add j = ⟨g, j, none⟩ := by simpa using addr_add g 0 j
              have hst := World.ownsRow.stored (w := wr.drew) (show wr.drew.ownsRow 0 5 1 (.slice (some ⟨g, 0, none⟩) len a) len (B8 l) from ho) j (.int .u8 (sgn k j : Int))
              rw [← B8_set] at hst
              have NR := Lib.hid hst.1
              have NK := Lib.hid (show Kp (fun z => (Value.slice (some ⟨g, 0, none⟩) len a).ownBlock = some z) wO (wr.drew.setCell ⟨g, j, none⟩ (.int .u8 (sgn k j : Int))) from (hk2.below (Below.refl _ _).drew).set g j _ (fun _ => rfl))
              have NX := Lib.hid (show (l.set j (sgn k j : Int)).take (j + 1) = mk1 k (j + 1) by rw [take_set_succ _ _ _ (by omega), TK.out, mk1_succ])
              have SG := Lib.hid (fun w' => sign_any k j (by omega) (by omega) w')
              clear hst ho hk2
              generalize sgn k j = sv at *
              go_wp2
              go_region_law ((try go_simp); go_at_call 43; refine (SG.out _).mono ?_; rintro e wx ⟨rfl, rfl⟩)
              all_goals go_wp2
              all_goals (go_roundw; (case rel => exact ⟨j + 1, l.set j (sv : Int), by omega, by go_num, by simpa using HLL.out, NX.out, NR.out, NK.out⟩); (case measure => simp [intOf]; omega))
            · obtain rfl : j = len := by omega
              have g2 : ¬ (j : Int) < (j : Int) := by omega
              have hl1 : l = mk1 k j := by have := TK.out; rwa [List.take_of_length_le (by omega)] at this
              subst hl1
              have NP := Lib.hid (PP2.out.next hv hl ho hk2)
              clear ho hk2
              go_wp2
              go_roundw
              case rel => exact ⟨k + 1, by omega, by go_num, NP.out⟩
              case measure => simp [intOf]; omega
        · obtain rfl : k = M := by omega
          generalize k = M at *
          have g1 : ¬ (M : Int) < (M : Int) := by omega
          have P3 := P2.ph3
          clear P2
          go_wp2
          go_loopw [12, 13, 14, 15] (fun mvv iv _ _ wr => ∃ (k : Nat) (cl2 : Nat → Nat) (mvals : List Value), k ≤ M ∧ iv = .int .i64 (k : Int) ∧ Ph3 w wr cl2 (.slice lsA M lsc) M vals lens mvv mvals k) (fun _ iv _ _ _ => M - (intOf iv).toNat)
          case atStart => exact ⟨0, cl, [], by omega, rfl, P3⟩
          case round =>
            clear P3 g1
            obtain ⟨k, cl2, mvals, hk, rfl, P3⟩ := hrel
            obtain ⟨mA, mc, rfl, _, _⟩ := own_rd P3.mo
            by_cases hkl : k < M
            · have g1 : (k : Int) < (M : Int) := by omega
              obtain ⟨v, hv⟩ : ∃ v, vals[k]? = some v := ⟨_, List.getElem?_eq_getElem (by omega)⟩
              obtain ⟨len, hl⟩ : ∃ len, lens[k]? = some len := ⟨_, List.getElem?_eq_getElem (by rw [P3.nl]; exact hkl)⟩
              obtain ⟨hlen, ⟨A, a, rfl, _⟩, hrow⟩ := P3.row k v len hv hl
              obtain ⟨ho, hcl⟩ := hrow (Nat.le_refl _)
              have hvk : vals[k]'(by omega) = .slice A len a := by rw [List.getElem?_eq_getElem (by omega)] at hv; injection hv
              obtain ⟨lb, lo, rfl, y0⟩ := (own_rdv P3.ls).at k (by omega)
              rw [hvk] at y0
              have ea := addr_add lb lo k
              have hAf : A = none ∨ ∃ u, A = some ⟨u, 0, none⟩ := by
                rcases ho.2 with ⟨he, _⟩ | ⟨g, _, _, he, _⟩
                · injection he with he _ _; exact .inl he
                · injection he with he _ _; exact .inr ⟨g, he⟩
              have HAF := Lib.hid hAf
              generalize wr = wO at *
              have PP3 := Lib.hid P3
              clear P3 hcl hvk hrow hAf
              go_wp2
              clear y0
              go_loopw [14, 15] (fun gv jv wr2 => ∃ t : Nat, t ≤ 64 ∧ jv = .int .i64 (t : Int) ∧ wr2.ownsRow 0 5 1 gv (len + t) (B8 (mk2 k len t)) ∧ (∀ z, gv.ownBlock = some z → (Value.slice A len a).ownBlock = some z ∨ wO.heap.size ≤ z) ∧ Rd wr2 A (B8 (mk1 k len)) ∧ Kp (fun z => (Value.slice A len a).ownBlock = some z) wO wr2) (fun _ jv _ => 64 - (intOf jv).toNat)
              case atStart => exact ⟨0, by omega, rfl, by rw [mk2_zero]; exact ho, fun z hz => .inl hz, own_rdv ho, Kp.refl _ _⟩
              case round =>
                clear ho
                obtain ⟨t, ht, rfl, og, gb, ra, hk2⟩ := hrel
                obtain ⟨gA, gc, rfl, _, _⟩ := own_rd og
                by_cases hlt : t < 64
                · have g2 : (t : Int) < 64 := by omega
                  have NX := Lib.hid (show B8 (mk2 k len t) ++ [.int .u8 (128 + (sgn k t : Int))] = B8 (mk2 k len (t + 1)) by rw [B8_snoc, mk2_succ])
                  have hs := sgn_lt k t
                  have hw : IntKind.u8.wrap (128 + (sgn k t : Int)) = 128 + (sgn k t : Int) := IntWalk.u8_in _ (by omega)
                  have SG := Lib.hid (fun w' => sign_any k t (by omega) (by omega) w')
                  have GB := Lib.hid gb
                  have RA := Lib.hid ra
                  have HK2 := Lib.hid hk2
                  clear gb ra hk2
                  generalize sgn k t = sv at *
                  go_wp2_with fail
                  refine (SG.out wr).mono ?_
                  rintro e w1 ⟨rfl, rfl⟩
                  go_wp2_with (at_builtin; refine appK 0 rfl _ _ 34 5 (.int .u8 0) 1 rfl Try.underlying34 info5 rfl (by decide) (.slice gA (len + t) gc) (len + t) (B8 (mk2 k len t)) (.int .u8 (128 + (sv : Int))) rfl rfl rfl og (Nat.zero_le _) (by omega) ?_; intro g9 cap9 w9 os9 hc9; rw [NX.out] at os9)
                  have hz := HK2.out.size
                  have ra9 := Lib.hid (rd_app HAF.out RA.out os9 hc9)
                  have hk9 := Lib.hid (show Kp (fun z => (Value.slice A len a).ownBlock = some z) wO w9 from by
                    rcases hc9 with ⟨e, hg⟩ | ⟨e, hg⟩
                    · refine HK2.out.grown hg (fun z hz2 hzl => ?_)
                      injection hz2 with hz2
                      subst hz2
                      rcases GB.out _ e with h | h
                      · exact h
                      · omega
                    · exact HK2.out.grown hg (fun z hz2 _ => by cases hz2))
                  have gb9 := Lib.hid (show ∀ z, (Value.slice (some ⟨g9, 0, none⟩) (len + t + 1) cap9).ownBlock = some z → (Value.slice A len a).ownBlock = some z ∨ wO.heap.size ≤ z from fun z hz2 => by
                    have hgz : g9 = z := by simpa [Value.ownBlock] using hz2
                    subst hgz
                    rcases hc9 with ⟨e, _⟩ | ⟨e, _⟩
                    · exact GB.out _ e
                    · exact .inr (by omega))
                  have OS9 := Lib.hid os9
                  clear os9 hc9 og
                  go_roundw
                  case rel => exact ⟨t + 1, by omega, by go_num, OS9.out, gb9.out, ra9.out, hk9.out⟩
                  case measure => simp [intOf]; omega
                · obtain rfl : t = 64 := by omega
                  have oM := ownKp PP3.out.mo hk2 (fun z hz e => by
                    obtain ⟨_, _, h5⟩ := PP3.out.row k _ len hv hl
                    have := (h5 (Nat.le_refl _)).2 z e
                    have := PP3.out.mc z hz
                    omega)
                  have OG := Lib.hid og
                  have GB := Lib.hid gb
                  have RA := Lib.hid ra
                  have HK2 := Lib.hid hk2
                  clear gb ra hk2 og
                  go_wp2_with (at_builtin; refine app (w0 := wr) 0 rfl _ _ 30 34 (.slice none 0 0) 1 24 rfl Try.underlying30 info34 rfl (by decide) (by decide) (.slice mA k mc) k mvals #[.slice gA (len + 64) gc] rfl rfl rfl (by simp [Value.oneCell']) oM (Below.refl 0 wr) (by omega) (by omega) ?_; intro g5 cap5 w5 os5 hb5 hg5 hat5)
                  have hat6 : (Value.slice (some ⟨g5, 0, none⟩) (k + 1) cap5).ownBlock = (Value.slice mA k mc).ownBlock ∨ ∀ z, (Value.slice (some ⟨g5, 0, none⟩) (k + 1) cap5).ownBlock = some z → wr.heap.size ≤ z := by
                    rcases hat5 with e | e
                    · exact .inl (by rw [← e]; rfl)
                    · refine .inr (fun z hz => ?_)
                      have hgz : g5 = z := by simpa [Value.ownBlock] using hz
                      omega
                  have NP := Lib.hid (PP3.out.next hv hl HK2.out OG.out GB.out RA.out os5 hg5 hat6)
                  clear os5 hb5 hg5 hat5 hat6 oM
                  go_roundw
                  case rel => exact ⟨k + 1, _, _, by omega, by go_num, NP.out⟩
                  case measure => simp [intOf]; omega
            · obtain rfl : k = M := by omega
              generalize k = M at *
              have g1 : ¬ (M : Int) < (M : Int) := by omega
              have hmn := P3.mo.1
              have RL := Lib.hid (fun w' (hb : Below wr.heap.size wr w') => (own_rdv P3.ls).below hb)
              have RM := Lib.hid (fun w' (hb : Below wr.heap.size wr w') => (own_rdv P3.mo).below hb)
              have BLW := Lib.hid P3.bl
              have ROW := Lib.hid P3.row
              have MROW := Lib.hid P3.mrow
              have HNL := Lib.hid P3.nl
              generalize wr = wP at *
              clear P3
              go_wp2
              go_loopw [16, 17, 18] (fun iv _ _ wr => ∃ k : Nat, k ≤ M ∧ iv = .int .i64 (k : Int) ∧ Below wP.heap.size wP wr) (fun iv _ _ _ => M - (intOf iv).toNat)
              case atStart => exact ⟨0, by omega, rfl, Below.refl _ _⟩
              case round =>
                clear g1
                obtain ⟨k, hk, rfl, hbl⟩ := hrel
                by_cases hkl : k < M
                · have g1 : (k : Int) < (M : Int) := by omega
                  obtain ⟨v, hv⟩ : ∃ v, vals[k]? = some v := ⟨_, List.getElem?_eq_getElem (by omega)⟩
                  obtain ⟨m, hm⟩ : ∃ m, mvals[k]? = some m := ⟨_, List.getElem?_eq_getElem (by omega)⟩
                  obtain ⟨len, hl⟩ : ∃ len, lens[k]? = some len := ⟨_, List.getElem?_eq_getElem (by rw [HNL.out]; exact hkl)⟩
                  obtain ⟨hlen, ⟨A, a, rfl, hr⟩, _⟩ := ROW.out k v len hv hl
                  obtain ⟨A', a', rfl, hr'⟩ := MROW.out k m len hm hl
                  have hvk : vals[k]'(by omega) = .slice A len a := by rw [List.getElem?_eq_getElem (by omega)] at hv; injection hv
                  have hmk : mvals[k]'(by omega) = .slice A' (len + 64) a' := by rw [List.getElem?_eq_getElem (by omega)] at hm; injection hm
                  obtain ⟨lb, lo, rfl, y0⟩ := (RL.out wr hbl).at k (by omega)
                  rw [hvk] at y0
                  have ea := addr_add lb lo k
                  have YL := Lib.hid (show ∀ w', Below wP.heap.size wP w' → w'.cell? ⟨lb, lo + k, none⟩ = some (.slice A len a) from fun w' hb => by
                    obtain ⟨b2, o2, he, hy⟩ := (RL.out w' hb).at k (by omega)
                    injection he with he
                    injection he with e1 e2
                    subst e1 e2
                    rw [hy, hvk])
                  obtain ⟨mb, mo, rfl, ym⟩ := (RM.out wr hbl).at k (by omega)
                  have eb := addr_add mb mo k
                  have YM := Lib.hid (show ∀ w', Below wP.heap.size wP w' → w'.cell? ⟨mb, mo + k, none⟩ = some (.slice A' (len + 64) a') from fun w' hb => by
                    obtain ⟨b2, o2, he, hy⟩ := (RM.out w' hb).at k (by omega)
                    injection he with he
                    injection he with e1 e2
                    subst e1 e2
                    rw [hy, hmk])
                  have R1 := Lib.hid (fun w' (hb : Below wP.heap.size wP w') => hr.rd.below hb)
                  have R2 := Lib.hid (fun w' (hb : Below wP.heap.size wP w') => hr'.rd.below hb)
                  clear hv hm hl hr hr' hvk hmk ym
                  go_wp2
                  clear y0
                  go_loopw [18] (fun jv wr2 => ∃ j : Nat, j ≤ len + 64 ∧ jv = .int .i64 (j : Int) ∧ Below wP.heap.size wP wr2) (fun jv _ => len + 64 - (intOf jv).toNat)
                  case atStart => exact ⟨0, by omega, rfl, hbl⟩
                  case round =>
                    clear hbl
                    obtain ⟨j, hj, rfl, hbl⟩ := hrel
                    have y0 := YL.out wr hbl
                    have y1 := YM.out wr hbl
                    by_cases hlt : j < len + 64
                    · have g2 : (j : Int) < ((len + 64 : Nat) : Int) := by omega
                      have g3 : (j : Int) < (len : Int) + 64 := by omega
                      obtain ⟨g', o', rfl, z1⟩ := (R2.out wr hbl).b8 j (by rw [mk2_length]; omega)
                      have eg' := addr_add g' o' j
                      by_cases hjl : j < len
                      · have d1 : decide ((j : Int) < (len : Int)) = true := decide_eq_true (by omega)
                        have d2 : decide ((len : Int) ≤ (j : Int)) = false := decide_eq_false (by omega)
                        have d3 : (j : Int) < (len : Int) := by omega
                        have d4 : ¬ (len : Int) ≤ (j : Int) := by omega
                        have d5 : decide (len ≤ j) = false := decide_eq_false (by omega)
                        have d6 : decide (j < len) = true := decide_eq_true (by omega)
                        obtain ⟨g, og, rfl, z0⟩ := (R1.out wr hbl).b8 j (by rw [mk1_length]; omega)
                        have eg := addr_add g og j
                        rw [show (mk1 k len)[j]'(by rw [mk1_length]; omega) = (sgn k j : Int) by simp [mk1]] at z0
                        rw [show (mk2 k len 64)[j]'(by rw [mk2_length]; omega) = (sgn k j : Int) by
                          unfold mk2
                          rw [List.getElem_append_left (by rw [mk1_length]; omega)]
                          simp [mk1]] at z1
                        have SG := Lib.hid (fun w' => sign_any k j (by omega) (by omega) w')
                        generalize sgn k j = sv at *
                        go_wp2
                        go_quiet ((go_at_call 43; exact Calls.quiet_of_same ((SG.out _).mono fun _ _ h => ⟨h.1, h.2.symm⟩)))
                        all_goals go_wp2
                        go_roundw
                        case rel => exact ⟨j + 1, by omega, by go_num, bdraw hbl _⟩
                        case measure => simp [intOf]; omega
                      · have d1 : decide ((j : Int) < (len : Int)) = false := decide_eq_false (by omega)
                        have d2 : decide ((len : Int) ≤ (j : Int)) = true := decide_eq_true (by omega)
                        have d3 : ¬ (j : Int) < (len : Int) := by omega
                        have d4 : (len : Int) ≤ (j : Int) := by omega
                        have d5 : decide (len ≤ j) = true := decide_eq_true (by omega)
                        have d6 : decide (j < len) = false := decide_eq_false (by omega)
                        have dS : (j : Int) - (len : Int) = ((j - len : Nat) : Int) := by omega
                        rw [show (mk2 k len 64)[j]'(by rw [mk2_length]; omega) = 128 + (sgn k (j - len) : Int) by
                          unfold mk2
                          rw [List.getElem_append_right (by rw [mk1_length]; omega)]
                          simp [mk1_length]] at z1
                        have SG := Lib.hid (fun w' => sign_any k (j - len) (by omega) (by omega) w')
                        have hs := sgn_lt k (j - len)
                        have hw : IntKind.u8.wrap (128 + (sgn k (j - len) : Int)) = 128 + (sgn k (j - len) : Int) := IntWalk.u8_in _ (by omega)
                        generalize sgn k (j - len) = sv at *
                        generalize j - len = jl at *
                        go_wp2
                        go_quiet ((go_at_call 43; exact Calls.quiet_of_same ((SG.out _).mono fun _ _ h => ⟨h.1, h.2.symm⟩)))
                        all_goals go_wp2
                        go_roundw
                        case rel => exact ⟨j + 1, by omega, by go_num, bdraw hbl _⟩
                        case measure => simp [intOf]; omega
                    · obtain rfl : j = len + 64 := by omega
                      have g2 : ¬ ((len + 64 : Nat) : Int) < ((len + 64 : Nat) : Int) := by omega
                      go_wp2
                      go_roundw
                      case rel => exact ⟨k + 1, by omega, by go_num, hbl⟩
                      case measure => simp [intOf]; omega
                · obtain rfl : k = M := by omega
                  have g1 : ¬ (k : Int) < (k : Int) := by omega
                  have FB := Lib.hid (bthen BLW.out hbl)
                  go_wp2
                  go_returns
                  exact ⟨rfl, FB.out⟩
end Go.Proofs.Ytcambbnmeiolgaa
namespace Go.Proofs.Ytcambbnmeiolgaa
open Go.RowKit
/-! TextCalls -/
theorem Wd.more {col : Nat → Nat} {c : Nat} {W : World} {q : Nat} {pv rv : Nat → Value} {lv mv : Value} {N : Nat} {vl vm : List Value} {sp sr : Nat → Option Ss} {B B' : Nat} (h : Wd col c W q pv rv lv mv N vl vm sp sr B) (hB : B ≤ B') : Wd col c W q pv rv lv mv N vl vm sp sr B' :=
  ⟨h.bk, h.cq, h.P, fun k hk => (h.R k hk).more hB, h.rl, h.rm, h.cl, h.cm, h.mks⟩
def DoA (col : Nat → Nat) (c : Nat) (W : World) (q N B : Nat) (w' : World) : Prop := ∃ Y, DoesOut col c W q N B Y w'
theorem does_any {col : Nat → Nat} {c : Nat} {W : World} {q : Nat} {pv rv : Nat → Value} {lv mv : Value} {N : Nat} {vl vm : List Value} {x : Nat → Option Ss} {B : Nat} (h : Wd col c W q pv rv lv mv N vl vm x x B) (o : OpT) (hop : ∀ w', Kp (Mine col c) W w' → OpOk w' o) (hc12 : c ≤ 12) (hB : B ≤ 70000000000000) (hN : N ≤ 1099511627776) :
    Calls Try.prog 13 #[.pointer (some ⟨q, 0, none⟩), (.agg (opC o))] W fun en w' => en = .returned (.bool true) ∧ DoA col c W q N (B + 16777216) w' := by
  obtain ⟨k, hk, hbk⟩ := on_k o.on
  have hop0 := hop W (Kp.refl _ _)
  have hlk : o.l.length ≤ 1048576 := by have := hop0.kl; have := hop0.kb; omega
  have hgl := gy_len (o := o) (h.oks hk) hlk
  have still : ∀ w', Below W.heap.size W w' → DoA col c W q N (B + 16777216) w' := fun w' hb =>
    ⟨x, colR col W 50, pv, rv, lv, mv, N, vl, vm, (h.below hb (fun j hj => colR_old hj)).more (by omega), by omega, fun j hj => colR_old hj, .of_below hb⟩
  by_cases h1 : o.kind = 1
  · refine (does_new h o hop h1 k hk hbk hc12).mono ?_
    rintro en w' ⟨rfl, col', pv', rv', hW, hold, hkp⟩
    exact ⟨rfl, _, col', pv', rv', lv, mv, N, vl, vm, hW.more (by omega), by omega, hold, hkp⟩
  · by_cases h2 : o.kind = 2
    · refine (does_feed h o hop h2 k hk hbk hc12 hB hN (by unfold gy at hgl; rw [if_pos h2] at hgl; exact hgl)).mono ?_
      rintro en w' ⟨rfl, hD⟩
      exact ⟨rfl, _, hD⟩
    · by_cases h3 : o.kind = 3
      · refine (does_close h o h3 k hk hbk hc12 hB hN (by unfold gy at hgl; rw [if_neg h2, if_pos h3] at hgl; exact hgl)).mono ?_
        rintro en w' ⟨rfl, col', pv', rv', lv', mv', N', vl', vm', hW, hN', hold, hkp⟩
        exact ⟨rfl, _, col', pv', rv', lv', mv', N', vl', vm', hW.more (by omega), hN', hold, hkp⟩
      · by_cases h4 : o.kind = 4
        · refine (does_over h o h4 k hk hbk).mono ?_
          rintro en w' ⟨rfl, hb⟩
          exact ⟨by simp, still w' hb⟩
        · refine (does_other W q o h1 h2 h3 h4).mono ?_
          rintro en w' ⟨rfl, hb⟩
          exact ⟨rfl, still w' hb⟩
/-- a World, and what it may be -/
structure Cw (w W : World) (q i : Nat) : Prop where
  ex : ∃ col pv rv lv mv N vl vm x, Wd col 0 W q pv rv lv mv N vl vm x x (i * 16777216) ∧ N ≤ 2 * i ∧ ∀ j, j < w.heap.size → col j = 50
  bl : Below w.heap.size w W
theorem Cw.start (w : World) {w1 : World} (hb : Below w.heap.size w w1) : Cw w (w1.alloc (.cells (WC (.pointer none) (.pointer none) (.pointer none) (.pointer none) (.slice none 0 0) (.slice none 0 0)) 32)) w1.heap.size 0 := by
  have k1 := Blk.new w1 (WC (.pointer none) (.pointer none) (.pointer none) (.pointer none) (.slice none 0 0) (.slice none 0 0)) 32
  have nb : ∀ k, (Value.slice none 0 0).ownBlock ≠ some k := fun k h => by simp [Value.ownBlock] at h
  have hz := hb.size
  refine ⟨⟨fun j => if j = w1.heap.size then 0 else 50, fun _ => .pointer none, fun _ => .pointer none, _, _, 0, [], [], fun _ => none, ⟨k1, by simp, fun _ _ => rfl, fun _ _ => rfl, World.ownsRow_nil _ _ _ _, World.ownsRow_nil _ _ _ _, fun k h => absurd h (nb k), fun k h => absurd h (nb k), fun i x y h => by simp at h⟩, by omega, fun j hj => ?_⟩, hb.alloc hz _⟩
  show (if j = w1.heap.size then 0 else 50) = 50
  rw [if_neg (by omega)]
theorem Cw.does {w W : World} {q i : Nat} (h : Cw w W q i) (o : OpT) (hop : ∀ w', Below w.heap.size w w' → OpOk w' o) (hi : i < 4000000) :
    Calls Try.prog 13 #[.pointer (some ⟨q, 0, none⟩), (.agg (opC o))] W fun en w' => en = .returned (.bool true) ∧ Cw w w' q (i + 1) := by
  obtain ⟨⟨col, pv, rv, lv, mv, N, vl, vm, x, hW, hN, hlo⟩, hb⟩ := h
  refine (does_any hW o (fun w' hk => hop w' (mine_lo (c := 0) (by omega) hlo hb hk)) (by omega) (by omega) (by omega)).mono ?_
  rintro en w' ⟨rfl, Y, col', pv', rv', lv', mv', N', vl', vm', hW', hN', hold, hkp⟩
  have hz := hb.size
  exact ⟨rfl, ⟨col', pv', rv', lv', mv', N', vl', vm', Y, by rw [Nat.add_mul, Nat.one_mul]; exact hW', by omega, fun j hj => (hold j (by omega)).trans (hlo j hj)⟩, mine_lo (c := 0) (by omega) hlo hb hkp⟩
theorem Cw.whole {w W : World} {q i : Nat} (h : Cw w W q i) (hi : i < 4000000) : Calls Try.prog 14 #[.pointer (some ⟨q, 0, none⟩)] W fun en w' => en = .returned (.bool true) ∧ Cw w w' q i := by
  obtain ⟨⟨col, pv, rv, lv, mv, N, vl, vm, x, hW, hN, hlo⟩, hb⟩ := h
  refine (hW.whole (by omega)).mono ?_
  rintro en w' ⟨rfl, hb2⟩
  have hz := hb.size
  exact ⟨rfl, ⟨colR col W 50, pv, rv, lv, mv, N, vl, vm, x, hW.below hb2 (fun j hj => colR_old hj), hN, fun j hj => (colR_old (by omega)).trans (hlo j hj)⟩, bthen hb hb2⟩
end Go.Proofs.Ytcambbnmeiolgaa
