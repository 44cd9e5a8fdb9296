import Derived.Test.YtobklhnechbpaaaAnwP
import Derived.Test.YtobklhnechbpaaaApW
/- What BpeOwn keeps: its boxes, its vocabulary's copy and its tokens; its Book. -/
namespace Go.Proofs.Ytobklhnechbpaaa
open Go.RowKit
section
variable {H q : Nat} {W W' : World} {lv sv : Value} {n : Nat} {vals wvals : List Value} {Ls : List (List Int)}
theorem Bkt.sm {B : Nat} {nl ns : Nat} (h : Bkt H q W lv sv nl ns vals wvals) (hs : Sm B W W') : Bkt H q W' lv sv nl ns vals wvals := ⟨h.hq, h.bk.sm hs, own_sm h.rl hs, own_sm h.rs hs, h.ap⟩
theorem Bok.sm {B : Nat} (h : Bok H q W lv sv n vals wvals Ls) (hs : Sm B W W') : Bok H q W' lv sv n vals wvals Ls :=
  ⟨h.t.sm hs, h.ln, fun i v l hv hl => ⟨own_sm (h.rw i v l hv hl).1 hs, (h.rw i v l hv hl).2⟩, fun i v l hv hl => own_sm (h.wr i v l hv hl) hs, h.un⟩
theorem Bok.lt (h : Bok H q W lv sv n vals wvals Ls) : ∀ (i : Nat) (u : Value) (z : Nat), vals[i]? = some u → u.ownBlock = some z → z < W.heap.size := fun i u z hu hz => by
  have h1 := lt_of_some hu
  have h2 : i < Ls.length := by rw [h.ln, ← h.len.1]; exact h1
  exact (own_lt (h.rw i u _ hu (List.getElem?_eq_getElem h2)).1 z hz).2
/-- what is newer than the Book is kept, too -/
theorem Bok.rest2 (h : Bok H q W lv sv n vals wvals Ls) (z : Nat) (hz : W.heap.size ≤ z) : rowC q lv vals n z = n := by
  obtain ⟨hvl, _⟩ := h.len
  have hq : z ≠ q := fun e => by have := h.t.bk.lt; omega
  have hl : lv.ownBlock ≠ some z := fun e => by have := (own_lt h.t.rl z e).2; omega
  unfold rowC
  rw [if_neg hq, if_neg hl, ← hvl]
  refine List.findIdx_eq_length.2 (fun v hv => decide_eq_false (fun e => ?_))
  obtain ⟨i, hi, rfl⟩ := List.getElem_of_mem hv
  have := h.lt i _ z (List.getElem?_eq_getElem hi) e
  omega
theorem Bok.nil (hb : Blk W q #[.slice none 0 0, .slice none 0 0, .slice none 0 0] 57) (hH : H ≤ q) : Bok H q W (.slice none 0 0) (.slice none 0 0) 0 [] [] [] :=
  ⟨⟨hH, hb, World.ownsRow_nil _ _ _ _, World.ownsRow_nil _ _ _ _, fun k hk => by simp [Value.ownBlock] at hk⟩, rfl, fun i v l hv => by simp at hv, fun i v l hv => by simp at hv, fun i j v u _ hv => by simp at hv⟩
end
/-- the boxes, the copy, the tokens: all below H -/
structure Bf (w W : World) (H X Y : Nat) (A A' C C' la : Option Addr) (n m c c' d d' N lc : Nat) (bs : List Int) (ps : List (Int × Int)) (L : List Int) : Prop where
  hw : w.heap.size ≤ X
  hX : X + 1 < H
  hY : Y < H
  q0 : Blk W X #[.slice A n c, .slice A' m c'] 25
  q4 : Blk W (X + 1) #[.bool false] 4
  q8 : Blk W Y #[.slice C n d, .slice C' m d'] 25
  oC : W.ownsRow w.heap.size 5 1 (.slice C n d) n (B8 bs)
  oQ : W.ownsRow w.heap.size 51 2 (.slice C' m d') m (PR ps)
  oL : W.ownsRow w.heap.size 3 1 (.slice la N lc) N (I64 L)
  lC : ∀ z, (Value.slice C n d).ownBlock = some z → z < H
  lQ : ∀ z, (Value.slice C' m d').ownBlock = some z → z < H
  lL : ∀ z, (Value.slice la N lc).ownBlock = some z → z < H
  hb : Below w.heap.size w W
  hH : H ≤ W.heap.size
section
variable {w W W' : World} {H X Y : Nat} {A A' C C' la : Option Addr} {n m c c' d d' N lc : Nat} {bs : List Int} {ps : List (Int × Int)} {L : List Int}
theorem Bf.kp (h : Bf w W H X Y A A' C C' la n m c c' d d' N lc bs ps L) {S : Nat → Prop} (hk : Kp S W W') (hS : ∀ z, z < H → ¬ S z) : Bf w W' H X Y A A' C C' la n m c c' d d' N lc bs ps L := by
  have h1 := h.hX
  have h2 := h.hw
  exact ⟨h.hw, h.hX, h.hY, h.q0.kp hk (hS _ (by omega)), h.q4.kp hk (hS _ h.hX), h.q8.kp hk (hS _ h.hY), ownKp h.oC hk (fun z e => hS z (h.lC z e)), ownKp h.oQ hk (fun z e => hS z (h.lQ z e)), ownKp h.oL hk (fun z e => hS z (h.lL z e)), h.lC, h.lQ, h.lL,
    h.hb.trans (hk.toBelow h.hb.size (fun k hk => hS k (by omega))), Nat.le_trans h.hH hk.size⟩
theorem Bf.below (h : Bf w W H X Y A A' C C' la n m c c' d d' N lc bs ps L) (hb : Below W.heap.size W W') : Bf w W' H X Y A A' C C' la n m c c' d d' N lc bs ps L :=
  h.kp (S := fun _ => False) (.of_below hb) (fun _ _ h => h)
theorem Bf.sm {B : Nat} (h : Bf w W H X Y A A' C C' la n m c c' d d' N lc bs ps L) (hB : w.heap.size ≤ B) (hs : Sm B W W') : Bf w W' H X Y A A' C C' la n m c c' d d' N lc bs ps L :=
  ⟨h.hw, h.hX, h.hY, h.q0.sm hs, h.q4.sm hs, h.q8.sm hs, own_sm h.oC hs, own_sm h.oQ hs, own_sm h.oL hs, h.lC, h.lQ, h.lL, Below.sm h.hb hB (Nat.le_refl _) hs, Nat.le_trans h.hH hs.size⟩
theorem Bf.v0 (h : Bf w W H X Y A A' C C' la n m c c' d d' N lc bs ps L) : W.cell? ⟨X, 0, none⟩ = some (.slice A n c) := h.q0.cell _
theorem Bf.v1 (h : Bf w W H X Y A A' C C' la n m c c' d d' N lc bs ps L) : W.cell? ⟨X, 1, none⟩ = some (.slice A' m c') := h.q0.cell _
theorem Bf.c0 (h : Bf w W H X Y A A' C C' la n m c c' d d' N lc bs ps L) : W.cell? ⟨Y, 0, none⟩ = some (.slice C n d) := h.q8.cell _
theorem Bf.c1 (h : Bf w W H X Y A A' C C' la n m c c' d d' N lc bs ps L) : W.cell? ⟨Y, 1, none⟩ = some (.slice C' m d') := h.q8.cell _
theorem Bf.vc (h : Bf w W H X Y A A' C C' la n m c c' d d' N lc bs ps L) (hv : Voc w A A' n m bs ps) : Voc W C C' n m bs ps := voc_of_rows hv h.oC h.oQ
theorem Bf.rL (h : Bf w W H X Y A A' C C' la n m c c' d d' N lc bs ps L) : Rd W la (I64 L) := own_rdA h.oL
end
/-- and the Book in its cell -/
structure Bo (w W : World) (H q X Y : Nat) (A A' C C' la : Option Addr) (n m c c' d d' N lc : Nat) (bs : List Int) (ps : List (Int × Int)) (L : List Int) (lv sv : Value) (k : Nat) (vals wvals : List Value) (Ls : List (List Int)) : Prop where
  f : Bf w W H X Y A A' C C' la n m c c' d d' N lc bs ps L
  q9 : Blk W (q + 1) #[.pointer (some ⟨q, 0, none⟩)] 54
  bk : Bok H q W lv sv k vals wvals Ls
section
variable {w W W' : World} {H q X Y : Nat} {A A' C C' la : Option Addr} {n m c c' d d' N lc : Nat} {bs : List Int} {ps : List (Int × Int)} {L : List Int} {lv sv : Value} {k : Nat} {vals wvals : List Value} {Ls : List (List Int)}
theorem Bo.below (h : Bo w W H q X Y A A' C C' la n m c c' d d' N lc bs ps L lv sv k vals wvals Ls) (hb : Below W.heap.size W W') : Bo w W' H q X Y A A' C C' la n m c c' d d' N lc bs ps L lv sv k vals wvals Ls :=
  ⟨h.f.below hb, h.q9.below hb, h.bk.below hb⟩
theorem Bo.sm {B : Nat} (h : Bo w W H q X Y A A' C C' la n m c c' d d' N lc bs ps L lv sv k vals wvals Ls) (hB : w.heap.size ≤ B) (hs : Sm B W W') : Bo w W' H q X Y A A' C C' la n m c c' d d' N lc bs ps L lv sv k vals wvals Ls :=
  ⟨h.f.sm hB hs, h.q9.sm hs, h.bk.sm hs⟩
theorem Bo.p (h : Bo w W H q X Y A A' C C' la n m c c' d d' N lc bs ps L lv sv k vals wvals Ls) : W.cell? ⟨q + 1, 0, none⟩ = some (.pointer (some ⟨q, 0, none⟩)) := h.q9.cell _
theorem Bo.kn (h : Bo w W H q X Y A A' C C' la n m c c' d d' N lc bs ps L lv sv k vals wvals Ls) : ∀ z, z < H → ¬ Kn q lv sv z := by
  rintro z hz (e | e | e)
  · have := h.bk.t.hq; omega
  · have := (own_lt h.bk.t.rl z e).1; omega
  · have := (own_lt h.bk.t.rs z e).1; omega
theorem Bo.note {x : Value} {l : List Int} (h : Bo w W H q X Y A A' C C' la n m c c' d d' N lc bs ps L lv sv k vals wvals Ls) {lv' sv' y : Value} (hB : Bok H q W' lv' sv' (k + 1) (vals ++ [x]) (wvals ++ [y]) (Ls ++ [l])) (hk : Kp (Kn q lv sv) W W') :
    Bo w W' H q X Y A A' C C' la n m c c' d d' N lc bs ps L lv' sv' (k + 1) (vals ++ [x]) (wvals ++ [y]) (Ls ++ [l]) :=
  ⟨h.f.kp hk h.kn, h.q9.kp hk (by
    rintro (e | e | e)
    · omega
    · exact h.q9.not_row (by decide) h.bk.t.rl e.symm
    · exact h.q9.not_row (by decide) h.bk.t.rs e.symm), hB⟩
end
/-- the Book, whatever stands in it -/
def BoE (w : World) (H q X Y : Nat) (A A' C C' la : Option Addr) (n m c c' d d' N lc : Nat) (bs : List Int) (ps : List (Int × Int)) (L : List Int) (D k : Nat) (W : World) : Prop :=
  ∃ lv sv vals wvals Ls, Bo w W H q X Y A A' C C' la n m c c' d d' N lc bs ps L lv sv k vals wvals Ls ∧ W.heap[D]? = some (.deferred (some []))
/-- round j of the range: k lists so far, all below Z -/
structure RgS (w W : World) (H q X Y : Nat) (A A' C C' la : Option Addr) (n m c c' d d' N lc : Nat) (bs : List Int) (ps : List (Int × Int)) (L : List Int) (S : GS) (j k Z : Nat) (lv sv : Value) (vals wvals : List Value) (Ls : List (List Int)) : Prop where
  bo : Bo w W H q X Y A A' C C' la n m c c' d d' N lc bs ps L lv sv k vals wvals Ls
  l1 : ∀ z, lv.ownBlock = some z → S.1 ≤ z
  l2 : ∀ z, sv.ownBlock = some z → S.1 ≤ z
  gv : ∀ (i : Nat) (u : Value) (z : Nat), vals[i]? = some u → u.ownBlock = some z → S.1 ≤ z ∨ ∃ i', i' < j ∧ S.2[i']? = some u
  bz : ∀ (i : Nat) (u : Value) (z : Nat), vals[i]? = some u → u.ownBlock = some z → z < Z
  hS : S.1 ≤ W.heap.size
def RgE (w : World) (H q X Y : Nat) (A A' C C' la : Option Addr) (n m c c' d d' N lc : Nat) (bs : List Int) (ps : List (Int × Int)) (L : List Int) (S : GS) (j k Z : Nat) (W : World) : Prop :=
  ∃ lv sv vals wvals Ls, RgS w W H q X Y A A' C C' la n m c c' d d' N lc bs ps L S j k Z lv sv vals wvals Ls
theorem UpS.trans {B S : Nat} {A A' A'' : World} (h : UpS B S A A') (k : UpS B S A' A'') : UpS B S A A'' :=
  ⟨Nat.le_trans h.size k.size, fun i hb hs hi => (k.same i hb hs (Nat.lt_of_lt_of_le hi h.size)).trans (h.same i hb hs hi)⟩
theorem UpS.of_below {B S : Nat} {A A' : World} (h : Below A.heap.size A A') : UpS B S A A' := ⟨h.size, fun k _ _ hk => h.block k hk⟩
theorem UpS.refl {B S : Nat} (A : World) : UpS B S A A := ⟨Nat.le_refl _, fun _ _ _ _ => rfl⟩
section
variable {w W W' : World} {H q X Y : Nat} {A A' C C' la : Option Addr} {n m c c' d d' N lc : Nat} {bs : List Int} {ps : List (Int × Int)} {L : List Int} {S : GS} {D j k Z : Nat}
theorem def_below {W W' : World} {D : Nat} (h : W.heap[D]? = some (.deferred (some []))) (hb : Below W.heap.size W W') : W'.heap[D]? = some (.deferred (some [])) :=
  (hb.block _ (Array.getElem?_eq_some_iff.1 h).1).trans h
theorem BoE.below (h : BoE w H q X Y A A' C C' la n m c c' d d' N lc bs ps L D k W) (hb : Below W.heap.size W W') : BoE w H q X Y A A' C C' la n m c c' d d' N lc bs ps L D k W' := by
  obtain ⟨lv, sv, vals, wvals, Ls, h, hD⟩ := h
  exact ⟨lv, sv, vals, wvals, Ls, h.below hb, def_below hD hb⟩
theorem BoE.dd (h : BoE w H q X Y A A' C C' la n m c c' d d' N lc bs ps L D k W) : W.heap[D]? = some (.deferred (some [])) := by
  obtain ⟨_, _, _, _, _, _, hD⟩ := h
  exact hD
/-- a row's block holds cells -/
theorem row_def {base nn size : Nat} {e : TypeId} {v : Value} {xs : List Value} (h : W.ownsRow base e size v nn xs) (hD : W.heap[D]? = some (.deferred (some []))) : v.ownBlock ≠ some D := by
  intro hk
  rcases h.2 with ⟨rfl, _⟩ | ⟨g, cap, cur, rfl, _, hh, _⟩
  · cases hk
  · have : g = D := by simpa [Value.ownBlock] using hk
    subst this
    rw [hh] at hD
    cases hD
theorem blk_def {b : Nat} {cs : Array Value} {t : TypeId} (h : Blk W b cs t) (hD : W.heap[D]? = some (.deferred (some []))) : D ≠ b := by
  rintro rfl
  have h1 : W.heap[D]? = some (.cells cs t (0, 0)) := h
  rw [h1] at hD
  cases hD
theorem Bok.defd {lv sv : Value} {vals wvals : List Value} {Ls : List (List Int)} (h : Bok H q W lv sv k vals wvals Ls) (hD : W.heap[D]? = some (.deferred (some []))) : ¬ Kn q lv sv D ∧ rowC q lv vals k D = k := by
  obtain ⟨hvl, _⟩ := h.len
  refine ⟨?_, ?_⟩
  · rintro (e | e | e)
    · exact blk_def h.t.bk hD e
    · exact row_def h.t.rl hD e
    · exact row_def h.t.rs hD e
  · unfold rowC
    rw [if_neg (blk_def h.t.bk hD), if_neg (row_def h.t.rl hD), ← hvl]
    refine List.findIdx_eq_length.2 (fun v hv => decide_eq_false (fun e => ?_))
    obtain ⟨i, hi, rfl⟩ := List.getElem_of_mem hv
    exact row_def (h.rw i _ _ (List.getElem?_eq_getElem hi) (List.getElem?_eq_getElem (show i < Ls.length by rw [h.ln]; omega))).1 hD e
theorem BoE.f (h : BoE w H q X Y A A' C C' la n m c c' d d' N lc bs ps L D k W) : Bf w W H X Y A A' C C' la n m c c' d d' N lc bs ps L := by
  obtain ⟨lv, sv, vals, wvals, Ls, h, _⟩ := h
  exact h.f
theorem BoE.p (h : BoE w H q X Y A A' C C' la n m c c' d d' N lc bs ps L D k W) : W.cell? ⟨q + 1, 0, none⟩ = some (.pointer (some ⟨q, 0, none⟩)) := by
  obtain ⟨lv, sv, vals, wvals, Ls, h, _⟩ := h
  exact h.p
theorem RgE.below (h : RgE w H q X Y A A' C C' la n m c c' d d' N lc bs ps L S j k Z W) (hb : Below W.heap.size W W') : RgE w H q X Y A A' C C' la n m c c' d d' N lc bs ps L S j k Z W' := by
  obtain ⟨lv, sv, vals, wvals, Ls, h⟩ := h
  exact ⟨lv, sv, vals, wvals, Ls, h.bo.below hb, h.l1, h.l2, h.gv, h.bz, Nat.le_trans h.hS hb.size⟩
theorem RgE.sm {B : Nat} (h : RgE w H q X Y A A' C C' la n m c c' d d' N lc bs ps L S j k Z W) (hB : w.heap.size ≤ B) (hs : Sm B W W') : RgE w H q X Y A A' C C' la n m c c' d d' N lc bs ps L S j k Z W' := by
  obtain ⟨lv, sv, vals, wvals, Ls, h⟩ := h
  exact ⟨lv, sv, vals, wvals, Ls, h.bo.sm hB hs, h.l1, h.l2, h.gv, h.bz, Nat.le_trans h.hS hs.size⟩
theorem RgE.f (h : RgE w H q X Y A A' C C' la n m c c' d d' N lc bs ps L S j k Z W) : Bf w W H X Y A A' C C' la n m c c' d d' N lc bs ps L := by
  obtain ⟨lv, sv, vals, wvals, Ls, h⟩ := h
  exact h.bo.f
theorem RgE.p (h : RgE w H q X Y A A' C C' la n m c c' d d' N lc bs ps L S j k Z W) : W.cell? ⟨q + 1, 0, none⟩ = some (.pointer (some ⟨q, 0, none⟩)) := by
  obtain ⟨lv, sv, vals, wvals, Ls, h⟩ := h
  exact h.bo.p
theorem RgE.boE (h : RgE w H q X Y A A' C C' la n m c c' d d' N lc bs ps L S j k Z W) (hD : W.heap[D]? = some (.deferred (some []))) : BoE w H q X Y A A' C C' la n m c c' d d' N lc bs ps L D k W := by
  obtain ⟨lv, sv, vals, wvals, Ls, h⟩ := h
  exact ⟨lv, sv, vals, wvals, Ls, h.bo, hD⟩
theorem RgE.top (h : RgE w H q X Y A A' C C' la n m c c' d d' N lc bs ps L S j k Z W) : RgE w H q X Y A A' C C' la n m c c' d d' N lc bs ps L S j k W.heap.size W := by
  obtain ⟨lv, sv, vals, wvals, Ls, h⟩ := h
  exact ⟨lv, sv, vals, wvals, Ls, h.bo, h.l1, h.l2, h.gv, h.bo.bk.lt, h.hS⟩
theorem RgE.hS (h : RgE w H q X Y A A' C C' la n m c c' d d' N lc bs ps L S j k Z W) : S.1 ≤ W.heap.size := by
  obtain ⟨lv, sv, vals, wvals, Ls, h⟩ := h
  exact h.hS
/-- what stays as it is while a list is noted: rows of bytes -/
def KeepB (W W' : World) : Prop := W.heap.size ≤ W'.heap.size ∧ ∀ (b : Nat) (v : Value) (nn : Nat) (xs : List Value), W.ownsRow b 5 1 v nn xs → W'.ownsRow b 5 1 v nn xs
/-- a list is noted: a given one (j' = j + 1), or one that is newer than all -/
theorem noteR_any {B j' Z' : Nat} {V : Option Addr} {vn vc : Nat} {l : List Int} (h : RgE w H q X Y A A' C C' la n m c c' d d' N lc bs ps L S j k Z W) (hun : Unlike S.2 W) (hqB : q < B) (hml : l.length = vn) (hx : W.ownsRow H 5 1 (.slice V vn vc) vn (B8 l)) (hl : vn ≤ 1099511627776) (hk : k ≤ 1099511627776)
    (hZ : Z ≤ Z') (hj : j ≤ j') (hZ2 : ∀ z, (Value.slice V vn vc).ownBlock = some z → z < Z')
    (hnew : (∀ z, (Value.slice V vn vc).ownBlock = some z → Z ≤ z ∧ S.1 ≤ z) ∨ (j < j' ∧ S.2[j]? = some (.slice V vn vc) ∧ ∀ z, (Value.slice V vn vc).ownBlock = some z → z < S.1)) :
    Calls Try.prog 33 #[.pointer (some ⟨q, 0, none⟩), .slice V vn vc] W fun e W' => e = .returned (.tuple #[]) ∧ RgE w H q X Y A A' C C' la n m c c' d d' N lc bs ps L S j' (k + 1) Z' W' ∧ KeepB W W' ∧ UpS B S.1 W W' := by
  obtain ⟨lv, sv, vals, wvals, Ls, h⟩ := h
  refine (note_any W H q lv sv k vals wvals Ls V vn vc l h.bo.bk hml hx hl (fun i u hu => ?_) hk).mono ?_
  · cases hz : (Value.slice V vn vc).ownBlock with
    | none => exact .inl rfl
    | some z =>
      refine .inr (fun he => ?_)
      rcases hnew with h1 | ⟨_, h2, h3⟩
      · have := (h1 z hz).1
        have := h.bz i u z hu he.symm
        omega
      · rcases h.gv i u z hu he.symm with h4 | ⟨i', hi', h4⟩
        · have := h3 z hz
          omega
        · rcases hun i' j u _ (by omega) h4 h2 with h5 | h5
          · rw [h5] at he; cases he
          · exact h5 (he.symm.trans hz.symm)
  · rintro e W' ⟨rfl, lv', sv', y, hB, hk2, hlv, hsv⟩
    have hSW := h.hS
    refine ⟨rfl, ⟨lv', sv', _, _, _, h.bo.note hB hk2, fun z hz => ?_, fun z hz => ?_, fun i u z hu hz => ?_, fun i u z hu hz => ?_, Nat.le_trans h.hS hk2.size⟩, ⟨hk2.size, fun b v nn xs ho => ownKp ho hk2 (h.bo.bk.t.row ho (by decide) (by decide))⟩, hk2.size, fun z hz1 hz2 hz3 => hk2.block z hz3 ?_⟩
    · rcases hlv with e | e
      · exact h.l1 z (e ▸ hz)
      · have := e z hz; omega
    · rcases hsv with e | e
      · exact h.l2 z (e ▸ hz)
      · have := e z hz; omega
    · rcases snoc_cases hu with ⟨_, hu⟩ | ⟨_, rfl⟩
      · rcases h.gv i u z hu hz with h4 | ⟨i', hi', h4⟩
        · exact .inl h4
        · exact .inr ⟨i', by omega, h4⟩
      · rcases hnew with h1 | ⟨hjj, h2, _⟩
        · exact .inl (h1 z hz).2
        · exact .inr ⟨j, hjj, h2⟩
    · rcases snoc_cases hu with ⟨_, hu⟩ | ⟨_, rfl⟩
      · have := h.bz i u z hu hz; omega
      · exact hZ2 z hz
    · rintro (e | e | e)
      · omega
      · have := h.l1 z e; omega
      · have := h.l2 z e; omega
/-- a list is noted that is newer than the Book -/
theorem noteB_any {W1 : World} {V : Option Addr} {vn vc : Nat} {l : List Int} (h : BoE w H q X Y A A' C C' la n m c c' d d' N lc bs ps L D k W) (hb : Below W.heap.size W W1) (hml : l.length = vn) (hx : W1.ownsRow W.heap.size 5 1 (.slice V vn vc) vn (B8 l)) (hl : vn ≤ 1099511627776) (hk : k ≤ 1099511627776) :
    Calls Try.prog 33 #[.pointer (some ⟨q, 0, none⟩), .slice V vn vc] W1 fun e W' => e = .returned (.tuple #[]) ∧ BoE w H q X Y A A' C C' la n m c c' d d' N lc bs ps L D (k + 1) W' := by
  obtain ⟨lv, sv, vals, wvals, Ls, h, hD⟩ := h
  have hlt := h.bk.lt
  have hH := h.f.hH
  have h1 := h.below hb
  refine (note_any W1 H q lv sv k vals wvals Ls V vn vc l h1.bk hml (own_base hx hH) hl (fun i u hu => ?_) hk).mono ?_
  · cases hz : (Value.slice V vn vc).ownBlock with
    | none => exact .inl rfl
    | some z =>
      refine .inr (fun he => ?_)
      have := (own_lt hx z hz).1
      have := hlt i u z hu he.symm
      omega
  · rintro e W' ⟨rfl, lv', sv', y, hB, hk2, hlv, hsv⟩
    exact ⟨rfl, lv', sv', _, _, _, h1.note hB hk2, (hk2.block D (Array.getElem?_eq_some_iff.1 (def_below hD hb)).1 (h1.bk.defd (def_below hD hb)).1).trans (def_below hD hb)⟩
/-- still -/
theorem stillB_any (h : BoE w H q X Y A A' C C' la n m c c' d d' N lc bs ps L D k W) (hk : k ≤ 1099511627776) :
    Calls Try.prog 34 #[.pointer (some ⟨q, 0, none⟩)] W fun e W' => e = .returned (.bool true) ∧ Below W.heap.size W W' := by
  obtain ⟨lv, sv, vals, wvals, Ls, h, hD⟩ := h
  exact bstill_any W H q lv sv k vals wvals Ls h.bk hk
/-- apart: what changes lies between H and what was newest when the last list was noted -/
theorem apartB_any {W0 : World} (h : BoE w H q X Y A A' C C' la n m c c' d d' N lc bs ps L D k W0) (hb : Below W0.heap.size W0 W) (hk : k ≤ 1099511627776) :
    Calls Try.prog 35 #[.pointer (some ⟨q, 0, none⟩)] W fun e W' => e = .returned (.bool true) ∧ Kp (fun z => H ≤ z ∧ z < W0.heap.size) W W' ∧ W'.heap[D]? = some (.deferred (some [])) := by
  obtain ⟨lv, sv, vals, wvals, Ls, h, hD⟩ := h
  have h1 := h.below hb
  refine (apart_any W H q lv sv k vals wvals Ls h1.bk hk).mono ?_
  rintro e W' ⟨rfl, hk2⟩
  refine ⟨rfl, hk2.mono (fun z _ hz => ⟨?_, ?_⟩), (hk2.block D (Array.getElem?_eq_some_iff.1 (def_below hD hb)).1 (fun e => e (h.bk.defd hD).2)).trans (def_below hD hb)⟩
  · rcases Nat.lt_or_ge z H with h2 | h2
    · exact absurd (h.bk.rest z (.inl h2)) hz
    · exact h2
  · rcases Nat.lt_or_ge z W0.heap.size with h2 | h2
    · exact h2
    · exact absurd (h.bk.rest2 z h2) hz
end
end Go.Proofs.Ytobklhnechbpaaa
