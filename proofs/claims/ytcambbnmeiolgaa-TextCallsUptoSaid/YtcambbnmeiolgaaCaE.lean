import Derived.Test.YtcambbnmeiolgaaCaC
import Derived.Test.YtcambbnmeiolgaaCaD
namespace Go.Proofs.Ytcambbnmeiolgaa
open Go.RowKit
/-! The law's World in memory: each block has a colour, which says to what it belongs -/
/-- a stream as it is seen -/
structure Ss where
  bs : List Int
  ps : List (Int × Int)
  strs : List ByteArray
  t : List UInt8
  e : Bool
structure SsOk (s : Ss) : Prop where
  h16 : ∀ x ∈ s.strs, 1 ≤ x.size ∧ x.size ≤ 16
  w16 : ∀ l ∈ toks s.bs s.ps, l.length ≤ 16 ∧ ∀ x ∈ l, 0 ≤ x ∧ x < 256
  s4 : s.strs.length ≤ 4
  n2 : 2 ≤ (toks s.bs s.ps).length
  t18 : s.t.length ≤ 18
def PPs (col : Nat → Nat) (d : Nat) (W : World) (s : Ss) (pv : Value) : Prop :=
  ∃ p wv sv T, pv = .pointer (some ⟨p, 0, none⟩) ∧ col p = d ∧ Blk W p (SC wv sv T (.slice none 0 0) s.e) 85 ∧ lst T = s.t ∧ Held (fun k => col k = d + 1) (fun w => Sta w p wv sv (toks s.bs s.ps) s.strs) W
def PRs (col : Nat → Nat) (d : Nat) (W : World) (s : Ss) (B : Nat) (rv : Value) : Prop :=
  ∃ r A n a A' m a' S sn sc cv came given long, rv = .pointer (some ⟨r, 0, none⟩) ∧ col r = d + 2 ∧ (∀ k, cv.ownBlock = some k → col k = d + 3) ∧ Blk W r (RC (.slice A n a) (.slice A' m a') (.slice S sn sc) cv given s.e long) 98 ∧ W.ownsRow 0 5 1 cv came.length (B8 came) ∧ Held (fun k => col k = d + 1) (fun w => Voc w A A' n m s.bs s.ps ∧ Rd w S (s.strs.map Value.string)) W ∧ s.strs.length = sn ∧ RefB (s.strs.map lst) (s.t, [], s.e) given (toU came) s.e long ∧ (s.e = false → given = came.length - waitsL (s.strs.map lst) (toU came)) ∧ came.length ≤ B ∧ (∀ x ∈ came, 0 ≤ x ∧ x < 256)
def SlotP (col : Nat → Nat) (d : Nat) (W : World) (x : Option Ss) (pv : Value) : Prop := match x with
  | none => pv = .pointer none
  | some s => SsOk s ∧ PPs col d W s pv
def SlotR (col : Nat → Nat) (d : Nat) (W : World) (x : Option Ss) (B : Nat) (rv : Value) : Prop := match x with
  | none => rv = .pointer none
  | some s => SsOk s ∧ PRs col d W s B rv
section
variable {col col' : Nat → Nat} {d : Nat} {W W' : World} {x : Option Ss} {B : Nat} {pv rv : Value} {S : Nat → Prop}
theorem SlotP.kp (h : SlotP col d W x pv) (hk : Kp S W W') (hS : ∀ k, k < W.heap.size → S k → col k ≠ d ∧ col k ≠ d + 1) (hc : ∀ k, k < W.heap.size → (col k = d ∨ col k = d + 1) → col' k = col k) : SlotP col' d W' x pv := by
  cases x with
  | none => exact h
  | some s =>
    obtain ⟨ho, p, wv, sv, T, h1, h2, h3, h4, h5⟩ := h
    exact ⟨ho, p, wv, sv, T, h1, (hc p h3.lt (.inl h2)).trans h2, h3.kp hk (fun hs => (hS p h3.lt hs).1 h2), h4, h5.kp hk (fun k hl hs hf => (hS k hl hs).2 hf) (fun k hl hf => (hc k hl (.inr hf)).trans hf)⟩
theorem SlotR.kp (h : SlotR col d W x B rv) (hk : Kp S W W') (hS : ∀ k, k < W.heap.size → S k → col k ≠ d + 1 ∧ col k ≠ d + 2 ∧ col k ≠ d + 3) (hc : ∀ k, k < W.heap.size → (col k = d + 1 ∨ col k = d + 2 ∨ col k = d + 3) → col' k = col k) : SlotR col' d W' x B rv := by
  cases x with
  | none => exact h
  | some s =>
    obtain ⟨ho, r, A, n, a, A', m, a', S', sn, sc, cv, came, given, long, h1, h2, h3, h4, h5, h6, h7⟩ := h
    refine ⟨ho, r, A, n, a, A', m, a', S', sn, sc, cv, came, given, long, h1, (hc r h4.lt (.inr (.inl h2))).trans h2, fun k hk2 => ?_, h4.kp hk (fun hs => (hS r h4.lt hs).2.1 h2), ownKp h5 hk (fun k hk2 hs => (hS k (own_lt h5 k hk2).2 hs).2.2 (h3 k hk2)), h6.kp hk (fun k hl hs hf => (hS k hl hs).1 hf) (fun k hl hf => (hc k hl (.inl hf)).trans hf), h7⟩
    exact (hc k (own_lt h5 k hk2).2 (.inr (.inr (h3 k hk2)))).trans (h3 k hk2)
theorem SlotR.more {B' : Nat} (h : SlotR col d W x B rv) (hB : B ≤ B') : SlotR col d W x B' rv := by
  cases x with
  | none => exact h
  | some s =>
    obtain ⟨ho, r, A, n, a, A', m, a', S', sn, sc, cv, came, given, long, h1, h2, h3, h4, h5, h6, h7, h8, h9, h10, h11⟩ := h
    exact ⟨ho, r, A, n, a, A', m, a', S', sn, sc, cv, came, given, long, h1, h2, h3, h4, h5, h6, h7, h8, h9, by omega, h11⟩
end
instance (n : Nat) (l : List Int) : Decidable (okTs n l) := by unfold okTs; infer_instance
/-- what a Feed of a stream does -/
def fo (x : Option Ss) (l : List Int) : Option Ss × List Int × Int := match x with
  | none => (none, [], 1)
  | some s => if okTs (toks s.bs s.ps).length l then
      (some { s with t := (feedU (s.strs.map lst) (toks s.bs s.ps) (s.t, [], s.e) l).1, e := (feedU (s.strs.map lst) (toks s.bs s.ps) (s.t, [], s.e) l).2.2 }, (feedU (s.strs.map lst) (toks s.bs s.ps) (s.t, [], s.e) l).2.1, 0)
    else (some s, [], 52)
/-- and a Close -/
def co (x : Option Ss) : Option Ss × List Int := match x with
  | none => (none, [])
  | some s => (some { s with t := (endU (s.t, [], s.e)).1, e := true }, (endU (s.t, [], s.e)).2.1)
theorem SsOk.sl {s : Ss} (h : SsOk s) : ∀ x ∈ s.strs.map lst, x.length ≤ 16 := fun x hx => by
  obtain ⟨y, hy, rfl⟩ := List.mem_map.1 hx
  rw [lst_length]
  exact (h.h16 y hy).2
theorem SsOk.fed {s : Ss} (h : SsOk s) (l : List Int) : SsOk { s with t := (feedU (s.strs.map lst) (toks s.bs s.ps) (s.t, [], s.e) l).1, e := (feedU (s.strs.map lst) (toks s.bs s.ps) (s.t, [], s.e) l).2.2 } :=
  ⟨h.h16, h.w16, h.s4, h.n2, (feedU_len _ _ h.sl (fun x hx => (h.w16 x hx).1) l (s.t, [], s.e) h.t18).1⟩
theorem SsOk.cls {s : Ss} (h : SsOk s) : SsOk { s with t := (endU (s.t, [], s.e)).1, e := true } :=
  ⟨h.h16, h.w16, h.s4, h.n2, by
    show (endU (s.t, [], s.e)).1.length ≤ 18
    have := h.t18
    unfold endU
    split
    · exact this
    · simp⟩
section
variable {col : Nat → Nat} {d : Nat} {W : World} {x : Option Ss} {B : Nat} {pv rv : Value}
theorem SlotP.feed (h : SlotP col d W x pv) (A : Option Addr) (n c : Nat) (l : List Int) (hl : l.length = n) (hn : n ≤ 1048576) (hx : Rd W A (I64 l)) (hA : ∀ b o, A = some ⟨b, o, none⟩ → 0 < n → col b ≠ d) :
    Calls Try.prog 18 #[pv, .slice A n c] W fun en w' => ∃ u, en = .returned (.tuple #[u, .int .i64 (fo x l).2.2]) ∧ w'.ownsRow W.heap.size 5 1 u (fo x l).2.1.length (B8 (fo x l).2.1) ∧ (∀ col', (∀ k, k < W.heap.size → col' k = col k) → SlotP col' d w' (fo x l).1 pv) ∧ Kp (fun k => col k = d) W w' := by
  cases x with
  | none =>
    obtain rfl : pv = .pointer none := h
    refine (feed_nil A n c W).mono ?_
    rintro en w' ⟨rfl, rfl⟩
    exact ⟨_, rfl, World.ownsRow_nil _ _ _ _, fun _ _ => rfl, Kp.refl _ _⟩
  | some s =>
    obtain ⟨ho, p, wv, sv, T, rfl, h2, h3, h4, h5⟩ := h
    by_cases hok : okTs (toks s.bs s.ps).length l
    · have hf : fo (some s) l = (some { s with t := (feedU (s.strs.map lst) (toks s.bs s.ps) (s.t, [], s.e) l).1, e := (feedU (s.strs.map lst) (toks s.bs s.ps) (s.t, [], s.e) l).2.2 }, (feedU (s.strs.map lst) (toks s.bs s.ps) (s.t, [], s.e) l).2.1, 0) := if_pos hok
      rw [hf]
      refine (feed_anyV A n c l W p wv sv (toks s.bs s.ps) s.strs s.t s.e ⟨T, h5.now, h3, h4⟩ ho.t18 hl (by omega) hx (fun b o he hp hbp => hA b o he hp (hbp ▸ h2)) hok).mono ?_
      rintro en w' ⟨u, rfl, ou, ⟨T', hS', hB', hT'⟩, hg⟩
      have hk : Kp (fun k => col k = d) W w' := (Kp.of_grown hg).mono (fun k _ hk => by injection hk with hk; subst hk; exact h2)
      refine ⟨u, rfl, ou, fun col' hc => ⟨ho.fed l, p, wv, sv, T', rfl, (hc p h3.lt).trans h2, hB', hT', h5.kp hk (fun k hl hs hf => ?_) (fun k hl hf => (hc k hl).trans hf)⟩, hk⟩
      omega
    · have hf : fo (some s) l = (some s, [], 52) := if_neg hok
      rw [hf]
      refine (feed_bad A n c l W p (toks s.bs s.ps) s.strs s.t s.e ⟨wv, sv, T, h5.now, h3, h4⟩ hl (by omega) hx hok).mono ?_
      rintro en w' ⟨rfl, rfl⟩
      exact ⟨_, rfl, World.ownsRow_nil _ _ _ _, fun col' hc => ⟨ho, p, wv, sv, T, rfl, (hc p h3.lt).trans h2, h3, h4, h5.mono (fun k hl hf => (hc k hl).trans hf)⟩, Kp.refl _ _⟩
theorem SlotP.close (h : SlotP col d W x pv) :
    Calls Try.prog 22 #[pv] W fun en w' => ∃ u, en = .returned u ∧ w'.ownsRow W.heap.size 5 1 u (co x).2.length (B8 (co x).2) ∧ (∀ col', (∀ k, k < W.heap.size → col' k = col k) → SlotP col' d w' (co x).1 pv) ∧ Kp (fun k => col k = d) W w' := by
  cases x with
  | none =>
    obtain rfl : pv = .pointer none := h
    refine (close_nil W).mono ?_
    rintro en w' ⟨rfl, rfl⟩
    exact ⟨_, rfl, World.ownsRow_nil _ _ _ _, fun _ _ => rfl, Kp.refl _ _⟩
  | some s =>
    obtain ⟨ho, p, wv, sv, T, rfl, h2, h3, h4, h5⟩ := h
    refine (close_bothV W p wv sv (toks s.bs s.ps) s.strs s.t s.e ⟨T, h5.now, h3, h4⟩ ho.t18 (by have := ho.n2; omega)).mono ?_
    rintro en w' ⟨u, rfl, ou, ⟨T', hS', hB', hT'⟩, hg⟩
    have hk : Kp (fun k => col k = d) W w' := (Kp.of_grown hg).mono (fun k _ hk => by injection hk with hk; subst hk; exact h2)
    have e1 : (co (some s)).2 = if s.e then [] else bI s.t := by
      show (endU (s.t, [], s.e)).2.1 = _
      unfold endU
      cases s.e <;> rfl
    have e2 : (endU (s.t, [], s.e)).1 = if s.e then s.t else [] := by
      unfold endU
      cases s.e <;> rfl
    rw [e1]
    refine ⟨u, rfl, ou, fun col' hc => ⟨ho.cls, p, wv, sv, T', rfl, (hc p h3.lt).trans h2, hB', hT'.trans e2.symm, h5.kp hk (fun k hl hs hf => ?_) (fun k hl hf => (hc k hl).trans hf)⟩, hk⟩
    omega
theorem SlotR.feed (h : SlotR col d W x B rv) (A : Option Addr) (n c : Nat) (l : List Int) (hl : l.length = n) (hn : n ≤ 1048576) (hB : B ≤ 70000000000000) (hx : ∀ w', Kp (fun k => col k = d + 2 ∨ col k = d + 3) W w' → Rd w' A (I64 l)) :
    Calls Try.prog 37 #[rv, .slice A n c] W fun en w' => ∃ u, en = .returned (.tuple #[u, .int .i64 (fo x l).2.2]) ∧ w'.ownsRow W.heap.size 5 1 u (fo x l).2.1.length (B8 (fo x l).2.1) ∧ (∀ col', (∀ k, k < W.heap.size → col' k = col k) → (∀ k, W.heap.size ≤ k → col' k = d + 3) → SlotR col' d w' (fo x l).1 (B + 16777216) rv) ∧ Kp (fun k => col k = d + 2 ∨ col k = d + 3) W w' := by
  cases x with
  | none =>
    obtain rfl : rv = .pointer none := h
    refine (fedR_nil A n c W).mono ?_
    rintro en w' ⟨rfl, rfl⟩
    exact ⟨_, rfl, World.ownsRow_nil _ _ _ _, fun _ _ _ => rfl, Kp.refl _ _⟩
  | some s =>
    obtain ⟨ho, r, V, vn, a, V', vm, a', S, sn, sc, cv, came, given, long, rfl, h2, h3, h4, h5, h6, h7, h8, h9, h10, h11⟩ := h
    have hKS : ∀ w', Kp (Rch r cv) W w' → Kp (fun k => col k = d + 2 ∨ col k = d + 3) W w' := fun w' hk => hk.mono (fun k _ hs => by
      rcases hs with rfl | hs
      · exact .inl h2
      · exact .inr (h3 k hs))
    have hH : ∀ w', Kp (Rch r cv) W w' → Voc w' V V' vn vm s.bs s.ps ∧ Rd w' S (s.strs.map Value.string) := fun w' hk => (h6.kp (hKS w' hk) (F2 := fun k => col k = d + 1) (fun k _ hs hf => by omega) (fun _ _ h => h)).now
    have hs4 := ho.s4
    refine (fedR_any W r V V' S A vn vm sn n a a' sc c cv s.bs s.ps s.strs l (fun w' hk => ⟨(hH w' hk).1, (hH w' hk).2, hx w' (hKS w' hk)⟩) hl hn h7 (by omega) ho.h16 ho.w16 came given long s.e s.t (RfS.start h4 h5) h8 h9 (by omega) h11).mono ?_
    rintro en w' (⟨hok, rfl, hb⟩ | ⟨hok, u, cv', came', given', done', long', rfl, ou, hr, hrb, hgv, hlen, hby⟩)
    · have hf : fo (some s) l = (some s, [], 52) := if_neg hok
      rw [hf]
      exact ⟨_, rfl, World.ownsRow_nil _ _ _ _, fun col' hc _ => ⟨ho, r, V, vn, a, V', vm, a', S, sn, sc, cv, came, given, long, rfl, (hc r h4.lt).trans h2, fun k hk => (hc k (own_lt h5 k hk).2).trans (h3 k hk), h4.below hb, own_below h5 hb, h6.kp (S := fun _ => False) (.of_below hb) (fun _ _ h => h.elim) (fun k hl hf => (hc k hl).trans hf), h7, h8, h9, by omega, h11⟩, .of_below hb⟩
    · have hf : fo (some s) l = (some { s with t := (feedU (s.strs.map lst) (toks s.bs s.ps) (s.t, [], s.e) l).1, e := (feedU (s.strs.map lst) (toks s.bs s.ps) (s.t, [], s.e) l).2.2 }, (feedU (s.strs.map lst) (toks s.bs s.ps) (s.t, [], s.e) l).2.1, 0) := if_pos hok
      rw [hf]
      have hd : (feedU (s.strs.map lst) (toks s.bs s.ps) (s.t, [], s.e) l).2.2 = done' := hrb.ov
      refine ⟨u, rfl, ou, fun col' hc hn2 => ⟨ho.fed l, r, V, vn, a, V', vm, a', S, sn, sc, cv', came', given', long', rfl, (hc r h4.lt).trans h2, fun k hk => ?_, ?_, hr.ow, h6.kp (hKS w' hr.kp) (fun k _ hs hf => by omega) (fun k hl hf => (hc k hl).trans hf), h7, ?_, ?_, by omega, hby⟩, hKS w' hr.kp⟩
      · rcases Nat.lt_or_ge k W.heap.size with hlt | hge
        · rcases hr.ob with e | e
          · exact (hc k hlt).trans (h3 k (e ▸ hk))
          · have := e k hk; omega
        · exact hn2 k hge
      · show Blk w' r (RC _ _ _ cv' given' (feedU (s.strs.map lst) (toks s.bs s.ps) (s.t, [], s.e) l).2.2 long') 98
        rw [hd]; exact hr.bk
      · show RefB _ (_, [], (feedU (s.strs.map lst) (toks s.bs s.ps) (s.t, [], s.e) l).2.2) given' (toU came') (feedU (s.strs.map lst) (toks s.bs s.ps) (s.t, [], s.e) l).2.2 long'
        rw [hd]; rw [hd] at hrb; exact hrb
      · show (feedU (s.strs.map lst) (toks s.bs s.ps) (s.t, [], s.e) l).2.2 = false → _
        rw [hd]; exact hgv
theorem SlotR.close (h : SlotR col d W x B rv) (hB : B ≤ 70000000000000) :
    Calls Try.prog 40 #[rv] W fun en w' => ∃ u, en = .returned u ∧ w'.ownsRow W.heap.size 5 1 u (co x).2.length (B8 (co x).2) ∧ (∀ col', (∀ k, k < W.heap.size → col' k = col k) → (∀ k, W.heap.size ≤ k → col' k = d + 3) → SlotR col' d w' (co x).1 B rv) ∧ Kp (fun k => col k = d + 2 ∨ col k = d + 3) W w' := by
  cases x with
  | none =>
    obtain rfl : rv = .pointer none := h
    refine (clsR_nil W).mono ?_
    rintro en w' ⟨rfl, rfl⟩
    exact ⟨_, rfl, World.ownsRow_nil _ _ _ _, fun _ _ _ => rfl, Kp.refl _ _⟩
  | some s =>
    obtain ⟨ho, r, V, vn, a, V', vm, a', S, sn, sc, cv, came, given, long, rfl, h2, h3, h4, h5, h6, h7, h8, h9, h10, h11⟩ := h
    have hKS : ∀ w', Kp (Rch r cv) W w' → Kp (fun k => col k = d + 2 ∨ col k = d + 3) W w' := fun w' hk => hk.mono (fun k _ hs => by
      rcases hs with rfl | hs
      · exact .inl h2
      · exact .inr (h3 k hs))
    have hH : ∀ w', Kp (Rch r cv) W w' → Rd w' S (s.strs.map Value.string) := fun w' hk => (h6.kp (hKS w' hk) (F2 := fun k => col k = d + 1) (fun k _ hs hf => by omega) (fun _ _ h => h)).now.2
    have hs4 := ho.s4
    refine (clsR_any W r V V' S vn vm sn a a' sc cv s.strs hH h7 (by omega) ho.h16 came given long s.e s.t (RfS.start h4 h5) h8 (by omega) h11).mono ?_
    rintro en w' ⟨u, cv', came', given', long', rfl, ou, hr, hrb, hlen, hby⟩
    have hd : (endU (s.t, [], s.e)).2.2 = true := hrb.ov
    rw [hd] at hrb
    refine ⟨u, rfl, ou, fun col' hc hn2 => ⟨ho.cls, r, V, vn, a, V', vm, a', S, sn, sc, cv', came', given', long', rfl, (hc r h4.lt).trans h2, fun k hk => ?_, hr.bk, hr.ow, h6.kp (hKS w' hr.kp) (fun k _ hs hf => by omega) (fun k hl hf => (hc k hl).trans hf), h7, hrb, fun h => (by cases h), by omega, hby⟩, hKS w' hr.kp⟩
    rcases Nat.lt_or_ge k W.heap.size with hlt | hge
    · rcases hr.ob with e | e
      · exact (hc k hlt).trans (h3 k (e ▸ hk))
      · have := e k hk; omega
    · exact hn2 k hge
/-- Over -/
def ov (x : Option Ss) : Bool := match x with | none => false | some s => s.e
theorem SlotP.over (h : SlotP col d W x pv) : Calls Try.prog 21 #[pv] W fun en w' => en = .returned (.bool (ov x)) ∧ W = w' := by
  cases x with
  | none => obtain rfl : pv = .pointer none := h; exact over_nil W
  | some s =>
    obtain ⟨ho, p, wv, sv, T, rfl, h2, h3, h4, h5⟩ := h
    exact over_any W p (toks s.bs s.ps) s.strs s.t s.e ⟨wv, sv, T, h5.now, h3, h4⟩
theorem SlotR.over (h : SlotR col d W x B rv) : Calls Try.prog 41 #[rv] W fun en w' => en = .returned (.bool (ov x)) ∧ W = w' := by
  cases x with
  | none => obtain rfl : rv = .pointer none := h; exact ovrR_nil W
  | some s =>
    obtain ⟨ho, r, V, vn, a, V', vm, a', S, sn, sc, cv, came, given, long, rfl, h2, h3, h4, _⟩ := h
    exact ovrR_any W r _ _ _ cv given s.e long h4
end
end Go.Proofs.Ytcambbnmeiolgaa
namespace Go.Proofs.Ytcambbnmeiolgaa
open Go.RowKit
def upK {α : Type} (f : Nat → α) (i : Nat) (a : α) : Nat → α := fun j => if j = i then a else f j
theorem upK_same {α : Type} (f : Nat → α) (i : Nat) (a : α) : upK f i a i = a := by unfold upK; rw [if_pos rfl]
theorem upK_other {α : Type} (f : Nat → α) {i j : Nat} (a : α) (h : j ≠ i) : upK f i a j = f j := by unfold upK; rw [if_neg h]
theorem MkP.move {col col' : Nat → Nat} {z : Nat} {S : Nat → Prop} {W W' : World} {x y : Value} {l : List Int} (h : MkP (fun j => col j = z) W x y l) (hk : Kp S W W') (hS : ∀ j, j < W.heap.size → S j → col j ≠ z) (hc : ∀ j, j < W.heap.size → col j = z → col' j = z) : MkP (fun j => col' j = z) W' x y l :=
  ((h.mono (P2 := fun j => j < W.heap.size ∧ col j = z) (fun _ hb hp => ⟨hb, hp⟩)).kp hk (fun b hb hp hs => hS b hb hs hp.2)).mono (fun _ _ hp => hc _ hp.1 hp.2)
/-- the law's World lies at q, in the colours c to c + 11 -/
structure Wd (col : Nat → Nat) (c : Nat) (W : World) (q : Nat) (pv rv : Nat → Value) (lv mv : Value) (N : Nat) (vl vm : List Value) (sp sr : Nat → Option Ss) (B : Nat) : Prop where
  bk : Blk W q (WC (pv 0) (pv 1) (rv 0) (rv 1) lv mv) 32
  cq : col q = c
  P : ∀ k, k < 2 → SlotP col (c + 1 + 4 * k) W (sp k) (pv k)
  R : ∀ k, k < 2 → SlotR col (c + 1 + 4 * k) W (sr k) B (rv k)
  rl : W.ownsRow 0 34 1 lv N vl
  rm : W.ownsRow 0 34 1 mv N vm
  cl : ∀ k, lv.ownBlock = some k → col k = c + 9
  cm : ∀ k, mv.ownBlock = some k → col k = c + 10
  mks : ∀ (i : Nat) (x y : Value), vl[i]? = some x → vm[i]? = some y → ∃ l, l.length ≤ 70368744177664 ∧ MkP (fun j => col j = c + 11) W x y l
/-- the colours of a World -/
def Mine (col : Nat → Nat) (c : Nat) : Nat → Prop := fun j => c ≤ col j ∧ col j < c + 12
section
variable {col col' : Nat → Nat} {c : Nat} {W W' : World} {q : Nat} {pv rv : Nat → Value} {lv mv : Value} {N : Nat} {vl vm : List Value} {sp sr : Nat → Option Ss} {B : Nat}
theorem Wd.kp {S : Nat → Prop} (h : Wd col c W q pv rv lv mv N vl vm sp sr B) (hk : Kp S W W') (hS : ∀ j, j < W.heap.size → S j → ¬ Mine col c j) (hc : ∀ j, j < W.heap.size → Mine col c j → col' j = col j) : Wd col' c W' q pv rv lv mv N vl vm sp sr B := by
  unfold Mine at hS hc
  refine ⟨h.bk.kp hk (fun hs => hS q h.bk.lt hs ⟨by rw [h.cq]; omega, by rw [h.cq]; omega⟩), (hc q h.bk.lt ⟨by rw [h.cq]; omega, by rw [h.cq]; omega⟩).trans h.cq, fun k hk2 => (h.P k hk2).kp hk (fun j hj hs => ?_) (fun j hj hd => hc j hj (by omega)), fun k hk2 => (h.R k hk2).kp hk (fun j hj hs => ?_) (fun j hj hd => hc j hj (by omega)), ownKp h.rl hk (fun k hk2 hs => ?_), ownKp h.rm hk (fun k hk2 hs => ?_), fun k hk2 => ?_, fun k hk2 => ?_, fun i x y hx hy => ?_⟩
  · have := hS j hj hs; omega
  · have := hS j hj hs; omega
  · have := hS k (own_lt h.rl k hk2).2 hs; have := h.cl k hk2; omega
  · have := hS k (own_lt h.rm k hk2).2 hs; have := h.cm k hk2; omega
  · have := h.cl k hk2; exact (hc k (own_lt h.rl k hk2).2 (by omega)).trans this
  · have := h.cm k hk2; exact (hc k (own_lt h.rm k hk2).2 (by omega)).trans this
  · obtain ⟨l, h1, h2⟩ := h.mks i x y hx hy
    exact ⟨l, h1, h2.move hk (fun j hj hs he => hS j hj hs (by omega)) (fun j hj he => (hc j hj (by omega)).trans he)⟩
theorem Wd.below (h : Wd col c W q pv rv lv mv N vl vm sp sr B) (hb : Below W.heap.size W W') (hc : ∀ j, j < W.heap.size → col' j = col j) : Wd col' c W' q pv rv lv mv N vl vm sp sr B :=
  h.kp (S := fun _ => False) (.of_below hb) (fun _ _ h => h.elim) (fun j hj _ => hc j hj)
/-- one of the program's streams moves -/
theorem Wd.moveP (h : Wd col c W q pv rv lv mv N vl vm sp sr B) {k : Nat} (hk : k < 2) {y : Option Ss} (hk2 : Kp (fun j => col j = c + 1 + 4 * k) W W') (hc : ∀ j, j < W.heap.size → col' j = col j) (hy : SlotP col' (c + 1 + 4 * k) W' y (pv k)) : Wd col' c W' q pv rv lv mv N vl vm (upK sp k y) sr B := by
  refine ⟨h.bk.kp hk2 (fun hs => ?_), (hc q h.bk.lt).trans h.cq, fun i hi => ?_, fun i hi => (h.R i hi).kp hk2 (fun j hj hs => by omega) (fun j hj _ => hc j hj), ownKp h.rl hk2 (fun j hj hs => ?_), ownKp h.rm hk2 (fun j hj hs => ?_), fun j hj => (hc j (own_lt h.rl j hj).2).trans (h.cl j hj), fun j hj => (hc j (own_lt h.rm j hj).2).trans (h.cm j hj), fun i x y hx hy => ?_⟩
  · have := h.cq; omega
  · by_cases e : i = k
    · subst e; rw [upK_same]; exact hy
    · rw [upK_other sp y e]
      exact (h.P i hi).kp hk2 (fun j hj hs => by omega) (fun j hj _ => hc j hj)
  · have := h.cl j hj; omega
  · have := h.cm j hj; omega
  · obtain ⟨l, h1, h2⟩ := h.mks i x y hx hy
    exact ⟨l, h1, h2.move hk2 (fun j hj hs he => by omega) (fun j hj he => (hc j hj).trans he)⟩
/-- one of the reference's -/
theorem Wd.moveR {B' : Nat} (h : Wd col c W q pv rv lv mv N vl vm sp sr B) (hB : B ≤ B') {k : Nat} (hk : k < 2) {y : Option Ss} (hk2 : Kp (fun j => col j = c + 1 + 4 * k + 2 ∨ col j = c + 1 + 4 * k + 3) W W') (hc : ∀ j, j < W.heap.size → col' j = col j) (hy : SlotR col' (c + 1 + 4 * k) W' y B' (rv k)) : Wd col' c W' q pv rv lv mv N vl vm sp (upK sr k y) B' := by
  refine ⟨h.bk.kp hk2 (fun hs => ?_), (hc q h.bk.lt).trans h.cq, fun i hi => (h.P i hi).kp hk2 (fun j hj hs => by omega) (fun j hj _ => hc j hj), fun i hi => ?_, ownKp h.rl hk2 (fun j hj hs => ?_), ownKp h.rm hk2 (fun j hj hs => ?_), fun j hj => (hc j (own_lt h.rl j hj).2).trans (h.cl j hj), fun j hj => (hc j (own_lt h.rm j hj).2).trans (h.cm j hj), fun i x y hx hy => ?_⟩
  · have := h.cq; omega
  · by_cases e : i = k
    · subst e; rw [upK_same]; exact hy
    · rw [upK_other sr y e]
      exact ((h.R i hi).more hB).kp hk2 (fun j hj hs => by omega) (fun j hj _ => hc j hj)
  · have := h.cl j hj; omega
  · have := h.cm j hj; omega
  · obtain ⟨l, h1, h2⟩ := h.mks i x y hx hy
    exact ⟨l, h1, h2.move hk2 (fun j hj hs he => by omega) (fun j hj he => (hc j hj).trans he)⟩
/-- Feed of one of the program's streams -/
theorem Wd.feedP (h : Wd col c W q pv rv lv mv N vl vm sp sr B) {k : Nat} (hk : k < 2) (A : Option Addr) (n a : Nat) (l : List Int) (hl : l.length = n) (hn : n ≤ 1048576) (hx : Rd W A (I64 l)) (hA : ∀ b o, A = some ⟨b, o, none⟩ → 0 < n → ¬ Mine col c b) :
    Calls Try.prog 18 #[pv k, .slice A n a] W fun en w' => ∃ u, en = .returned (.tuple #[u, .int .i64 (fo (sp k) l).2.2]) ∧ w'.ownsRow W.heap.size 5 1 u (fo (sp k) l).2.1.length (B8 (fo (sp k) l).2.1) ∧ (∀ col', (∀ j, j < W.heap.size → col' j = col j) → Wd col' c w' q pv rv lv mv N vl vm (upK sp k (fo (sp k) l).1) sr B) ∧ Kp (Mine col c) W w' := by
  refine ((h.P k hk).feed A n a l hl hn hx (fun b o he hp hb => hA b o he hp (by unfold Mine; omega))).mono ?_
  rintro en w' ⟨u, rfl, ou, hs, hk2⟩
  exact ⟨u, rfl, ou, fun col' hc => h.moveP hk hk2 hc (hs col' hc), hk2.mono (fun j _ hj => by unfold Mine; omega)⟩
theorem Wd.closeP (h : Wd col c W q pv rv lv mv N vl vm sp sr B) {k : Nat} (hk : k < 2) :
    Calls Try.prog 22 #[pv k] W fun en w' => ∃ u, en = .returned u ∧ w'.ownsRow W.heap.size 5 1 u (co (sp k)).2.length (B8 (co (sp k)).2) ∧ (∀ col', (∀ j, j < W.heap.size → col' j = col j) → Wd col' c w' q pv rv lv mv N vl vm (upK sp k (co (sp k)).1) sr B) ∧ Kp (Mine col c) W w' := by
  refine (h.P k hk).close.mono ?_
  rintro en w' ⟨u, rfl, ou, hs, hk2⟩
  exact ⟨u, rfl, ou, fun col' hc => h.moveP hk hk2 hc (hs col' hc), hk2.mono (fun j _ hj => by unfold Mine; omega)⟩
/-- the colours behind a call of a stream of the reference's -/
def colR (col : Nat → Nat) (W : World) (z : Nat) : Nat → Nat := fun j => if j < W.heap.size then col j else z
theorem colR_old {col : Nat → Nat} {W : World} {z j : Nat} (h : j < W.heap.size) : colR col W z j = col j := if_pos h
theorem colR_new {col : Nat → Nat} {W : World} {z j : Nat} (h : W.heap.size ≤ j) : colR col W z j = z := if_neg (by omega)
theorem Wd.feedR (h : Wd col c W q pv rv lv mv N vl vm sp sr B) {k : Nat} (hk : k < 2) (A : Option Addr) (n a : Nat) (l : List Int) (hl : l.length = n) (hn : n ≤ 1048576) (hB : B ≤ 70000000000000) (hx : ∀ w', Kp (Mine col c) W w' → Rd w' A (I64 l)) :
    Calls Try.prog 37 #[rv k, .slice A n a] W fun en w' => ∃ u, en = .returned (.tuple #[u, .int .i64 (fo (sr k) l).2.2]) ∧ w'.ownsRow W.heap.size 5 1 u (fo (sr k) l).2.1.length (B8 (fo (sr k) l).2.1) ∧ Wd (colR col W (c + 1 + 4 * k + 3)) c w' q pv rv lv mv N vl vm sp (upK sr k (fo (sr k) l).1) (B + 16777216) ∧ Kp (Mine col c) W w' := by
  have hm : ∀ w', Kp (fun j => col j = c + 1 + 4 * k + 2 ∨ col j = c + 1 + 4 * k + 3) W w' → Kp (Mine col c) W w' := fun w' hk2 => hk2.mono (fun j _ hj => by unfold Mine; omega)
  refine ((h.R k hk).feed A n a l hl hn hB (fun w' hk2 => hx w' (hm w' hk2))).mono ?_
  rintro en w' ⟨u, rfl, ou, hs, hk2⟩
  exact ⟨u, rfl, ou, h.moveR (by omega) hk hk2 (fun j hj => colR_old hj) (hs _ (fun j hj => colR_old hj) (fun j hj => colR_new hj)), hm w' hk2⟩
theorem Wd.closeR (h : Wd col c W q pv rv lv mv N vl vm sp sr B) {k : Nat} (hk : k < 2) (hB : B ≤ 70000000000000) :
    Calls Try.prog 40 #[rv k] W fun en w' => ∃ u, en = .returned u ∧ w'.ownsRow W.heap.size 5 1 u (co (sr k)).2.length (B8 (co (sr k)).2) ∧ Wd (colR col W (c + 1 + 4 * k + 3)) c w' q pv rv lv mv N vl vm sp (upK sr k (co (sr k)).1) B ∧ Kp (Mine col c) W w' := by
  refine ((h.R k hk).close hB).mono ?_
  rintro en w' ⟨u, rfl, ou, hs, hk2⟩
  exact ⟨u, rfl, ou, h.moveR (Nat.le_refl _) hk hk2 (fun j hj => colR_old hj) (hs _ (fun j hj => colR_old hj) (fun j hj => colR_new hj)), hk2.mono (fun j _ hj => by unfold Mine; omega)⟩
end
end Go.Proofs.Ytcambbnmeiolgaa
namespace Go.Proofs.Ytcambbnmeiolgaa
open Go.RowKit
set_option maxRecDepth 100000 in
set_option maxHeartbeats 2000000 in
/-- whole -/
theorem Wd.whole {col : Nat → Nat} {c : Nat} {W : World} {q : Nat} {pv rv : Nat → Value} {lv mv : Value} {N : Nat} {vl vm : List Value} {sp sr : Nat → Option Ss} {B : Nat} (h : Wd col c W q pv rv lv mv N vl vm sp sr B) (hN : N ≤ 1099511627776) :
    Calls Try.prog 14 #[.pointer (some ⟨q, 0, none⟩)] W fun en w' => en = .returned (.bool true) ∧ Below W.heap.size W w' := by
  have a4 : (⟨q, 0, none⟩ : Addr).add 4 = ⟨q, 4, none⟩ := by simpa using addr_add q 0 4
  have a5 : (⟨q, 0, none⟩ : Addr).add 5 = ⟨q, 5, none⟩ := by simpa using addr_add q 0 5
  have hl1 := h.rl.1
  have hm1 := h.rm.1
  obtain ⟨lA, lc, rfl, _, rl⟩ := own_rd h.rl
  obtain ⟨mA, mc, rfl, _, rm⟩ := own_rd h.rm
  have RL := Lib.hid rl
  have RM := Lib.hid rm
  have BK := Lib.hid h.bk
  have MS := Lib.hid h.mks
  clear rl rm h
  go_enter Try.func14, Try.ntmps14
  go_wp2
  go_loopw [3, 4] (fun iv _ wr => ∃ i : Nat, i ≤ N ∧ iv = .int .i64 (i : Int) ∧ Below W.heap.size W wr) (fun iv _ _ => N - (intOf iv).toNat)
  case atStart => exact ⟨0, by omega, rfl, Below.refl _ _⟩
  case round =>
    obtain ⟨i, hi, rfl, hbl⟩ := hrel
    have hB := BK.out.below hbl
    have x4 : wr.cell? ⟨q, 4, none⟩ = some (.slice lA N lc) := hB.cell _
    have x5 : wr.cell? ⟨q, 5, none⟩ = some (.slice mA N mc) := hB.cell _
    by_cases hlt : i < N
    · have g1 : (i : Int) < (N : Int) := by omega
      obtain ⟨lb, lo, rfl, y0⟩ := (RL.out.below hbl).at i (by omega)
      obtain ⟨mb, mo, rfl, y1⟩ := (RM.out.below hbl).at i (by omega)
      obtain ⟨l, hll, A, a, A', a', e1, e2, r1, r2⟩ := MS.out i (vl[i]'(by omega)) (vm[i]'(by omega)) (List.getElem?_eq_getElem _) (List.getElem?_eq_getElem _)
      rw [e1] at y0
      rw [e2] at y1
      have ea := addr_add lb lo i
      have eb := addr_add mb mo i
      have x4' : wr.drew.cell? ⟨q, 4, none⟩ = some (.slice (some ⟨lb, lo, none⟩) N lc) := x4
      have x5' : wr.drew.cell? ⟨q, 5, none⟩ = some (.slice (some ⟨mb, mo, none⟩) N mc) := x5
      have y0' : wr.drew.cell? ⟨lb, lo + i, none⟩ = some (.slice A l.length a) := y0
      have y1' : wr.drew.cell? ⟨mb, mo + i, none⟩ = some (.slice A' l.length a') := y1
      have EQ := Lib.hid (fun w' (hb : Below W.heap.size W w') => eqBytes_any A A' l.length l.length a a' l l rfl rfl (by omega) w' (r1.rd.below hb) (r2.rd.below hb))
      rw [decide_eq_true (rfl : l = l)] at EQ
      clear e1 e2 r1 r2 hB
      go_wp2
      go_region_law ((try go_simp); go_at_call 20; refine (EQ.out _ hbl.drew).mono ?_; rintro e w4 ⟨rfl, hb4⟩)
      all_goals go_wp2
      all_goals (go_roundw; (case rel => exact ⟨i + 1, by omega, by go_num, bthen hbl.drew hb4⟩); (case measure => simp [intOf]; omega))
    · have g1 : ¬ (i : Int) < (N : Int) := by omega
      clear hB
      go_wp2
      go_returns
      exact ⟨rfl, hbl⟩
end Go.Proofs.Ytcambbnmeiolgaa
namespace Go.Proofs.Ytcambbnmeiolgaa
open Go.RowKit
/-- one call, as it came in -/
structure OpT where
  kind : Int
  on : Int
  A : Option Addr
  n : Nat
  a : Nat
  A' : Option Addr
  m : Nat
  a' : Nat
  bs : List Int
  ps : List (Int × Int)
  S : Option Addr
  sn : Nat
  sc : Nat
  strs : List ByteArray
  K : Option Addr
  kn : Nat
  kc : Nat
  l : List Int
abbrev opC (o : OpT) : Array Value := #[.int .i64 o.kind, .int .i64 o.on, .slice o.A o.n o.a, .slice o.A' o.m o.a', .slice o.S o.sn o.sc, .slice o.K o.kn o.kc]
theorem on_k (x : Int) : ∃ k : Nat, k < 2 ∧ bits .and .i64 x 1 = (k : Int) := by
  refine ⟨(BitVec.ofInt 64 x).toNat % 2, Nat.mod_lt _ (by omega), ?_⟩
  show IntKind.i64.wrap ((BitVec.ofInt 64 x &&& BitVec.ofInt 64 1).toNat : Int) = _
  rw [BitVec.toNat_and, show (BitVec.ofInt 64 1).toNat = 1 from rfl, Nat.and_one_is_mod]
  exact IntWalk.i64_in _ (by omega)
structure OpOk (w : World) (o : OpT) : Prop where
  v : Voc w o.A o.A' o.n o.m o.bs o.ps
  wf : Wf o.bs o.ps
  bn : o.n ≤ 1048576
  bm : o.m ≤ 1048576
  s : Rd w o.S (SV o.strs)
  sl : o.strs.length = o.sn
  sb : o.sn ≤ 1048576
  k : Rd w o.K (I64 o.l)
  kl : o.l.length = o.kn
  kb : o.kn ≤ 1048576
  sc : o.sn ≤ o.sc
  kc : o.kn ≤ o.kc
theorem OpOk.below {w w' : World} {o : OpT} (h : OpOk w o) (hb : Below w.heap.size w w') : OpOk w' o := ⟨h.v.below hb, h.wf, h.bn, h.bm, h.s.below hb, h.sl, h.sb, h.k.below hb, h.kl, h.kb, h.sc, h.kc⟩
set_option maxRecDepth 100000 in
set_option maxHeartbeats 2000000 in
theorem does_other (W : World) (q : Nat) (o : OpT) (h1 : o.kind ≠ 1) (h2 : o.kind ≠ 2) (h3 : o.kind ≠ 3) (h4 : o.kind ≠ 4) :
    Calls Try.prog 13 #[.pointer (some ⟨q, 0, none⟩), (.agg (opC o))] W fun en w' => en = .returned (.bool true) ∧ Below W.heap.size W w' := by
  have e1 : (o.kind == 1) = false := by simpa using h1
  have e2 : (o.kind == 2) = false := by simpa using h2
  have e3 : (o.kind == 3) = false := by simpa using h3
  have e4 : (o.kind == 4) = false := by simpa using h4
  go_enter Try.func13, Try.ntmps13
  go_wp2
  go_returns
  exact ⟨rfl, by go_grown⟩
theorem wc_at {pv rv : Nat → Value} {lv mv : Value} {k : Nat} (hk : k < 2) : (WC (pv 0) (pv 1) (rv 0) (rv 1) lv mv)[k]? = some (pv k) ∧ (WC (pv 0) (pv 1) (rv 0) (rv 1) lv mv)[2 + k]? = some (rv k) := by
  match k, hk with
  | 0, _ => exact ⟨rfl, rfl⟩
  | 1, _ => exact ⟨rfl, rfl⟩
set_option maxRecDepth 100000 in
set_option maxHeartbeats 2000000 in
theorem does_over {col : Nat → Nat} {c : Nat} {W : World} {q : Nat} {pv rv : Nat → Value} {lv mv : Value} {N : Nat} {vl vm : List Value} {sp sr : Nat → Option Ss} {B : Nat} (h : Wd col c W q pv rv lv mv N vl vm sp sr B) (o : OpT) (h4 : o.kind = 4) (k : Nat) (hk : k < 2) (ho : bits .and .i64 o.on 1 = (k : Int)) :
    Calls Try.prog 13 #[.pointer (some ⟨q, 0, none⟩), (.agg (opC o))] W fun en w' => en = .returned (.bool (ov (sp k) == ov (sr k))) ∧ Below W.heap.size W w' := by
  have hb0 : Below W.heap.size W (W.alloc (.cells (opC o) 41)) := by go_grown
  have hP := h.P k hk
  have hR := h.R k hk
  have x0 : W.cell? ⟨q, k, none⟩ = some (pv k) := (h.bk.cell _).trans (wc_at hk).1
  have x1 : W.cell? ⟨q, 2 + k, none⟩ = some (rv k) := (h.bk.cell _).trans (wc_at hk).2
  have hne : q ≠ W.heap.size := by have := h.bk.lt; omega
  have y0 : (W.alloc (.cells (opC o) 41)).cell? ⟨q, k, none⟩ = some (pv k) := ((h.bk.alloc _).cell _).trans (wc_at hk).1
  have y1 : (W.alloc (.cells (opC o) 41)).cell? ⟨q, 2 + k, none⟩ = some (rv k) := ((h.bk.alloc _).cell _).trans (wc_at hk).2
  have CP := Lib.hid (fun n => (SlotP.kp (col' := col) hP (S := fun _ => False) (.of_below (bdraw hb0 n)) (fun _ _ h => h.elim) (fun _ _ _ => rfl)).over)
  have CR := Lib.hid (fun n => (SlotR.kp (col' := col) hR (S := fun _ => False) (.of_below (bdraw hb0 n)) (fun _ _ h => h.elim) (fun _ _ _ => rfl)).over)
  have g1 : (k : Int) < 2 := by omega
  have a0 : (⟨q, 0, none⟩ : Addr).add k = ⟨q, k, none⟩ := by simpa using addr_add q 0 k
  have a2 : (⟨q, 0, none⟩ : Addr).add 2 = ⟨q, 2, none⟩ := by simpa using addr_add q 0 2
  have a3 : (⟨q, 2, none⟩ : Addr).add k = ⟨q, 2 + k, none⟩ := addr_add q 2 k
  clear hP hR h
  go_enter Try.func13, Try.ntmps13
  go_wp2
  go_quiet (first | (go_at_call 21; exact Calls.quiet_of_same ((CP.out _).mono fun _ _ h => ⟨h.1, h.2.symm⟩)) | (go_at_call 41; exact Calls.quiet_of_same ((CR.out _).mono fun _ _ h => ⟨h.1, h.2.symm⟩)))
  all_goals go_wp2
  go_returns
  exact ⟨rfl, bdraw hb0 _⟩
end Go.Proofs.Ytcambbnmeiolgaa
namespace Go.Proofs.Ytcambbnmeiolgaa
open Go.RowKit
/-- the colours behind a keep -/
def colK (col : Nat → Nat) (c : Nat) (W : World) (bv lv mv : Value) : Nat → Nat := fun j => if j < W.heap.size then (if bv.ownBlock = some j then c + 11 else col j) else if lv.ownBlock = some j then c + 9 else if mv.ownBlock = some j then c + 10 else c + 11
theorem Wd.keep {col : Nat → Nat} {c : Nat} {W : World} {q : Nat} {pv rv : Nat → Value} {lv mv : Value} {N : Nat} {vl vm : List Value} {sp sr : Nat → Option Ss} {B : Nat} (h : Wd col c W q pv rv lv mv N vl vm sp sr B) (U : Option Addr) (un uc : Nat) (o : List Int) (ob : W.ownsRow 0 5 1 (.slice U un uc) un (B8 o)) (hub : ∀ k, (Value.slice U un uc).ownBlock = some k → ¬ Mine col c k) (hun : un ≤ 1099511627776) (hN : N ≤ 1099511627776) :
    Calls Try.prog 39 #[.pointer (some ⟨q, 0, none⟩), .slice U un uc] W fun en w' => en = .returned (.tuple #[]) ∧ ∃ col' lv' mv' vl' vm', Wd col' c w' q pv rv lv' mv' (N + 2) vl' vm' sp sr B ∧ (∀ j, j < W.heap.size → (Value.slice U un uc).ownBlock ≠ some j → col' j = col j) ∧ Kp (fun j => Mine col c j ∨ (Value.slice U un uc).ownBlock = some j) W w' := by
  have hap : ∀ k, lv.ownBlock = some k → mv.ownBlock ≠ some k := fun k h1 h2 => by have := h.cl k h1; have := h.cm k h2; omega
  refine (keep_any W q (pv 0) (pv 1) (rv 0) (rv 1) lv mv U N un uc vl vm o h.bk h.rl h.rm hap ob (by omega) hN).mono ?_
  rintro en w' ⟨rfl, lv', mv', x2, y1, y2, S, m1, m2⟩
  have hq := h.bk.lt
  have hbv : ∀ k, (Value.slice U un uc).ownBlock = some k → k < W.heap.size := fun k hk => (own_lt ob k hk).2
  have old : ∀ j, j < W.heap.size → Mine col c j → colK col c W (.slice U un uc) lv' mv' j = col j := fun j hj hm => by
    unfold colK
    rw [if_pos hj, if_neg (fun e => hub j e hm)]
  have hS : ∀ j, j < W.heap.size → Kch q lv mv (Value.slice U un uc).ownBlock j → col j = c ∨ col j = c + 9 ∨ col j = c + 10 ∨ ¬ Mine col c j := fun j hj hs => by
    rcases hs with e | e | e | e
    · exact .inl (by rw [e]; exact h.cq)
    · exact .inr (.inl (h.cl j e))
    · exact .inr (.inr (.inl (h.cm j e)))
    · exact .inr (.inr (.inr (hub j e)))
  have hlv := h.rl.1
  have hlm := h.rm.1
  unfold Mine at old hS
  refine ⟨rfl, colK col c W (.slice U un uc) lv' mv', lv', mv', _, _, ⟨S.bk, ?_, fun k hk => (h.P k hk).kp S.kp (fun j hj hs => ?_) (fun j hj hd => old j hj (by omega)), fun k hk => (h.R k hk).kp S.kp (fun j hj hs => ?_) (fun j hj hd => old j hj (by omega)), S.rl, S.rm, fun k hk => ?_, fun k hk => ?_, fun i x y hx hy => ?_⟩, fun j hj hne => ?_, ?_⟩
  · have := h.cq
    exact (old q hq (by omega)).trans this
  · have := hS j hj hs; omega
  · have := hS j hj hs; omega
  · rcases Nat.lt_or_ge k W.heap.size with hlt | hge
    · rcases S.ol with e | e
      · have := h.cl k (e ▸ hk)
        exact (old k hlt (by omega)).trans this
      · have := e k hk; omega
    · unfold colK
      rw [if_neg (by omega), if_pos hk]
  · rcases Nat.lt_or_ge k W.heap.size with hlt | hge
    · rcases S.om with e | e
      · have := h.cm k (e ▸ hk)
        exact (old k hlt (by omega)).trans this
      · have := e k hk; omega
    · unfold colK
      rw [if_neg (by omega), if_neg (fun e => S.ap k e hk), if_pos hk]
  · have hnew : ∀ (b : Nat), ((Value.slice U un uc).ownBlock = some b ∨ W.heap.size ≤ b) ∧ lv'.ownBlock ≠ some b ∧ mv'.ownBlock ≠ some b → colK col c W (.slice U un uc) lv' mv' b = c + 11 := by
      rintro b ⟨e | e, e2, e3⟩
      · unfold colK
        rw [if_pos (hbv b e), if_pos e]
      · unfold colK
        rw [if_neg (by omega), if_neg e2, if_neg e3]
    rcases Nat.lt_or_ge i N with hi | hi
    · rw [List.getElem?_append_left (by omega)] at hx hy
      obtain ⟨l, h1, h2⟩ := h.mks i x y hx hy
      exact ⟨l, h1, h2.move S.kp (fun j hj hs he => by have := hS j hj hs; omega) (fun j hj he => (old j hj (by omega)).trans he)⟩
    · rw [List.getElem?_append_right (by omega)] at hx hy
      rw [show i - vl.length = i - N by omega] at hx
      rw [show i - vm.length = i - N by omega] at hy
      obtain ⟨z, hz⟩ : ∃ z, i - N = z := ⟨_, rfl⟩
      rw [hz] at hx hy
      match z, hx, hy with
      | 0, hx, hy =>
        simp at hx hy
        subst hx hy
        exact ⟨mk1 N un, by rw [mk1_length]; omega, m1.mono (fun b _ hb => hnew b hb)⟩
      | 1, hx, hy =>
        simp at hx hy
        subst hx hy
        exact ⟨mk2 N un 64, by rw [mk2_length]; omega, m2.mono (fun b _ hb => hnew b hb)⟩
      | z + 2, hx, hy => simp at hx
  · unfold colK
    rw [if_pos hj, if_neg hne]
  · refine S.kp.mono (fun j hj hs => ?_)
    have h1 := hS j hj hs
    rcases hs with e | e | e | e
    · exact .inl (by unfold Mine; have := h.cq; rw [e]; omega)
    · exact .inl (by unfold Mine; have := h.cl j e; omega)
    · exact .inl (by unfold Mine; have := h.cm j e; omega)
    · exact .inr e
end Go.Proofs.Ytcambbnmeiolgaa
namespace Go.Proofs.Ytcambbnmeiolgaa
open Go.RowKit
/-! does: a Close -/
/-- what a call leaves -/
def DoesOut (col : Nat → Nat) (c : Nat) (W : World) (q N B : Nat) (y : Nat → Option Ss) (w' : World) : Prop :=
  ∃ col' pv' rv' lv' mv' N' vl' vm', Wd col' c w' q pv' rv' lv' mv' N' vl' vm' y y B ∧ N' ≤ N + 2 ∧ (∀ j, j < W.heap.size → col' j = col j) ∧ Kp (Mine col c) W w'
theorem mine_eq {col col' : Nat → Nat} {c j : Nat} (h : col' j = col j) : Mine col' c j ↔ Mine col c j := by unfold Mine; rw [h]
theorem mine_50 {col : Nat → Nat} {W : World} {c j : Nat} (hc : c ≤ 12) (hj : W.heap.size ≤ j) : ¬ Mine (colR col W 50) c j := by
  unfold Mine
  rw [colR_new hj]
  omega
set_option maxRecDepth 100000 in
set_option maxHeartbeats 2000000 in
theorem does_close {col : Nat → Nat} {c : Nat} {W : World} {q : Nat} {pv rv : Nat → Value} {lv mv : Value} {N : Nat} {vl vm : List Value} {x : Nat → Option Ss} {B : Nat} (h : Wd col c W q pv rv lv mv N vl vm x x B) (o : OpT) (h4 : o.kind = 3) (k : Nat) (hk : k < 2) (ho : bits .and .i64 o.on 1 = (k : Int)) (hc12 : c ≤ 12) (hB : B ≤ 70000000000000) (hN : N ≤ 1099511627776) (hlen : (co (x k)).2.length ≤ 1099511627776) :
    Calls Try.prog 13 #[.pointer (some ⟨q, 0, none⟩), (.agg (opC o))] W fun en w' => en = .returned (.bool true) ∧ DoesOut col c W q N B (upK x k (co (x k)).1) w' := by
  have hb0 : Below W.heap.size W (W.alloc (.cells (opC o) 41)) := by go_grown
  have h0 := h.below (col' := colR col W 50) hb0 (fun j hj => colR_old hj)
  have hz0 : (W.alloc (.cells (opC o) 41)).heap.size = W.heap.size + 1 := by simp
  have x0 : W.cell? ⟨q, k, none⟩ = some (pv k) := (h.bk.cell _).trans (wc_at hk).1
  have y0 : (W.alloc (.cells (opC o) 41)).cell? ⟨q, k, none⟩ = some (pv k) := ((h.bk.alloc _).cell _).trans (wc_at hk).1
  have g1 : (k : Int) < 2 := by omega
  have a0 : (⟨q, 0, none⟩ : Addr).add k = ⟨q, k, none⟩ := by simpa using addr_add q 0 k
  have a2 : (⟨q, 0, none⟩ : Addr).add 2 = ⟨q, 2, none⟩ := by simpa using addr_add q 0 2
  have a3 : (⟨q, 2, none⟩ : Addr).add k = ⟨q, 2 + k, none⟩ := addr_add q 2 k
  have H0 := Lib.hid h0
  clear h0 h
  go_enter Try.func13, Try.ntmps13
  go_wp2_with fail
  refine (H0.out.closeP hk).mono ?_
  rintro en w1 ⟨u, rfl, ou, hs1, hk1⟩
  have h1 := hs1 (colR (colR col W 50) (W.alloc (.cells (opC o) 41)) 50) (fun j hj => colR_old hj)
  have x1 : w1.cell? ⟨q, 2 + k, none⟩ = some (rv k) := (h1.bk.cell _).trans (wc_at hk).2
  obtain ⟨uA, uc, rfl, _, _⟩ := own_rd ou
  have H1 := Lib.hid h1
  clear hs1 h1 x0 y0
  go_wp2_with fail
  refine (H1.out.closeR hk hB).mono ?_
  rintro en w2 ⟨v, rfl, ov, h2, hk2⟩
  have hz1 := hk1.size
  have hz2 := hk2.size
  obtain ⟨vA, vc, rfl, _, _⟩ := own_rd ov
  have hun : ∀ j, (Value.slice uA (co (x k)).2.length uc).ownBlock = some j → (W.alloc (.cells (opC o) 41)).heap.size ≤ j ∧ j < w1.heap.size := fun j hj => own_lt ou j hj
  have ou2 := ownKp ou hk2 (fun j hj hm => mine_50 hc12 (hun j hj).1 hm)
  have H2 := Lib.hid h2
  clear h2
  go_wp2_with fail
  refine (eqBytes_any uA vA (co (x k)).2.length (co (x k)).2.length uc vc (co (x k)).2 (co (x k)).2 rfl rfl (by omega) w2 (own_rdv ou2) (own_rdv ov)).mono ?_
  rintro en w3 ⟨rfl, hb3⟩
  rw [decide_eq_true (rfl : (co (x k)).2 = (co (x k)).2)]
  have hz3 := hb3.size
  have h3 := H2.out.below (col' := colR (colR (colR col W 50) (W.alloc (.cells (opC o) 41)) 50) w1 (c + 1 + 4 * k + 3)) hb3 (fun j hj => rfl)
  have ou3 := own_base (own_below ou2 hb3) (Nat.zero_le _)
  have H3 := Lib.hid h3
  have HU := Lib.hid hun
  have O3 := Lib.hid ou3
  clear h3 ou3 hun ou ou2 ov
  go_wp2_with fail
  refine (H3.out.keep uA _ uc (co (x k)).2 O3.out (fun j hj hm => ?_) hlen hN).mono ?_
  · refine mine_50 (col := colR col W 50) (W := W.alloc (.cells (opC o) 41)) hc12 (HU.out j hj).1 ?_
    exact (mine_eq (colR_old (HU.out j hj).2)).1 hm
  · rintro en w4 ⟨rfl, col4, lv4, mv4, vl4, vm4, h4w, hc4, hk4⟩
    have OUT := Lib.hid (show DoesOut col c W q N B (upK x k (co (x k)).1) w4 from by
      have old : ∀ j, j < W.heap.size → colR (colR (colR col W 50) (W.alloc (.cells (opC o) 41)) 50) w1 (c + 1 + 4 * k + 3) j = col j := fun j hj => by
        rw [colR_old (by omega), colR_old (by omega), colR_old hj]
      have nb : ∀ j, j < W.heap.size → (Value.slice uA (co (x k)).2.length uc).ownBlock ≠ some j := fun j hj e => by
        have := (HU.out j e).1
        omega
      refine ⟨col4, pv, rv, lv4, mv4, N + 2, vl4, vm4, h4w, Nat.le_refl _, fun j hj => (hc4 j (by omega) (nb j hj)).trans (old j hj), ?_⟩
      refine ((((Kp.of_below hb0).step hk1 (fun j hj hm => ?_)).step hk2 (fun j hj hm => ?_)).below hb3).step hk4 (fun j hj hm => ?_)
      · exact (mine_eq (colR_old hj)).1 hm
      · exact (mine_eq (by rw [colR_old (by omega), colR_old hj])).1 hm
      · rcases hm with hm | hm
        · exact (mine_eq (old j hj)).1 hm
        · exact absurd hm (nb j hj))
    clear h4w hc4 hk4
    go_wp2
    go_returns
    exact ⟨rfl, OUT.out⟩
end Go.Proofs.Ytcambbnmeiolgaa
namespace Go.Proofs.Ytcambbnmeiolgaa
open Go.RowKit
/-! New, in colours -/
def newS (bs : List Int) (ps : List (Int × Int)) (strs : List ByteArray) : Option Ss := if newE bs ps strs = 0 then some ⟨bs, ps, strs, [], false⟩ else none
theorem ok_new {bs : List Int} {ps : List (Int × Int)} {strs : List ByteArray} (hwf : Wf bs ps) (h0 : newE bs ps strs = 0) : SsOk ⟨bs, ps, strs, [], false⟩ := by
  have hn := newE_some h0
  have hb : ¬ (4 < strs.length ∨ ∃ s ∈ strs, badS s) := by
    intro hb
    unfold newE at h0
    split at h0
    · cases h0
    · first | (rw [if_pos hb] at h0; exact absurd h0 (by decide)) | exact absurd h0 (by decide)
  refine ⟨fun x hx => ?_, toks_w16 hwf, ?_, hn, by simp⟩
  · have : ¬ badS x := fun h => hb (.inr ⟨x, hx, h⟩)
    unfold badS at this
    omega
  · have : ¬ 4 < strs.length := fun h => hb (.inl h)
    show strs.length ≤ 4
    omega
theorem newP_slot (A A' S : Option Addr) (n m sn c c' sc : Nat) (bs : List Int) (ps : List (Int × Int)) (strs : List ByteArray) (W : World) (hv : Voc W A A' n m bs ps) (hwf : Wf bs ps) (hl : strs.length = sn) (hr : Rd W S (strs.map Value.string)) (hsn : sn ≤ 140737488355328) :
    Calls Try.prog 16 #[.agg #[.slice A n c, .slice A' m c'], .slice S sn sc] W fun en w' => ∃ P : Option Addr, en = .returned (.tuple #[.pointer P, .int .i64 (newE bs ps strs)]) ∧ Below W.heap.size W w' ∧ (P = none ↔ newE bs ps strs ≠ 0) ∧ (∀ (col' : Nat → Nat) (d : Nat), (∀ j, W.heap.size ≤ j → col' j = if P = some ⟨j, 0, none⟩ then d else d + 1) → SlotP col' d w' (newS bs ps strs) (.pointer P)) := by
  refine (new_anyB A A' S n m sn c c' sc bs ps strs W hv hwf hl hr hsn).mono ?_
  rintro en w' ⟨hb, (⟨hne, rfl⟩ | ⟨h0, p, hp, rfl, wv, sv, vals, hS, hB, o1, o2, o3⟩)⟩
  · refine ⟨none, rfl, hb, ⟨fun _ => hne, fun _ => rfl⟩, fun col' d _ => ?_⟩
    unfold newS
    rw [if_neg hne]
    rfl
  · refine ⟨some ⟨p, 0, none⟩, by rw [h0], hb, ⟨fun h => (by cases h), fun h => absurd h0 h⟩, fun col' d hc => ?_⟩
    unfold newS
    rw [if_pos h0]
    have hcp : col' p = d := by rw [hc p hp, if_pos rfl]
    have hcn : ∀ j, W.heap.size ≤ j → j ≠ p → col' j = d + 1 := fun j hj hne => by
      rw [hc j hj, if_neg]
      intro e
      injection e with e
      injection e with e
      exact hne e.symm
    refine ⟨ok_new hwf h0, p, wv, sv, ⟨#[]⟩, rfl, hcp, hB, rfl, fun w2 h2 => ?_⟩
    have key : ∀ {e : TypeId} {n : Nat} {v : Value} {xs : List Value}, (85 : TypeId) ≠ e → w'.ownsRow W.heap.size e 1 v n xs → w2.ownsRow W.heap.size e 1 v n xs := fun he ho => own_kp ho (fun q hq => h2 q (own_lt ho q hq).2 (hcn q (own_lt ho q hq).1 (fun e => hB.not_row he ho (by rw [hq, e]))))
    refine ⟨⟨vals, own_base (key (by decide) o1) (Nat.zero_le _), ⟨o2.1, fun i v hi => own_base (key (by decide) (o2.2 i v hi)) (Nat.zero_le _)⟩, .inr (hB.not_row (by decide) o1).symm, fun v hv => ?_⟩, ⟨own_base (key (by decide) o3) (Nat.zero_le _), .inr (hB.not_row (by decide) o3).symm⟩, hS.w64, hS.w16, hS.s4, hS.s16⟩
    obtain ⟨i, hi, rfl⟩ := List.getElem_of_mem hv
    exact .inr (hB.not_row (by decide) (o2.2 i _ (List.getElem?_eq_getElem hi))).symm
theorem newR_slot (A A' S : Option Addr) (n m sn c c' sc : Nat) (bs : List Int) (ps : List (Int × Int)) (strs : List ByteArray) (W : World) (B : Nat) (hv : Voc W A A' n m bs ps) (hwf : Wf bs ps) (hl : strs.length = sn) (hr : Rd W S (strs.map Value.string)) (hsn : sn ≤ 140737488355328) :
    Calls Try.prog 33 #[.agg #[.slice A n c, .slice A' m c'], .slice S sn sc] W fun en w' => ∃ P : Option Addr, en = .returned (.tuple #[.pointer P, .int .i64 (newE bs ps strs)]) ∧ Below W.heap.size W w' ∧ (P = none ↔ newE bs ps strs ≠ 0) ∧ (∀ (col' : Nat → Nat) (d : Nat), (∀ j, W.heap.size ≤ j → col' j = if P = some ⟨j, 0, none⟩ then d + 2 else d + 1) → SlotR col' d w' (newS bs ps strs) B (.pointer P)) := by
  refine (newR_any A A' S n m sn c c' sc bs ps strs W hv hl hr hsn).mono ?_
  rintro en w' ⟨hb, (⟨hne, rfl⟩ | ⟨h0, r, v, u, sv, hp, rfl, hB, o1, o2, o3⟩)⟩
  · refine ⟨none, rfl, hb, ⟨fun _ => hne, fun _ => rfl⟩, fun col' d _ => ?_⟩
    unfold newS
    rw [if_neg hne]
    rfl
  · refine ⟨some ⟨r, 0, none⟩, by rw [h0], hb, ⟨fun h => (by cases h), fun h => absurd h0 h⟩, fun col' d hc => ?_⟩
    unfold newS
    rw [if_pos h0]
    have hcp : col' r = d + 2 := by rw [hc r hp, if_pos rfl]
    have hcn : ∀ j, W.heap.size ≤ j → j ≠ r → col' j = d + 1 := fun j hj hne => by
      rw [hc j hj, if_neg]
      intro e
      injection e with e
      injection e with e
      exact hne e.symm
    obtain ⟨vA, vc, rfl, _, _⟩ := own_rd o1
    obtain ⟨uA, uc, rfl, _, _⟩ := own_rd o2
    obtain ⟨sA, sc2, rfl, _, _⟩ := own_rd o3
    refine ⟨ok_new hwf h0, r, vA, _, vc, uA, _, uc, sA, _, sc2, .slice none 0 0, [], 0, 0, rfl, hcp, fun k hk => by simp [Value.ownBlock] at hk, hB, World.ownsRow_nil _ _ _ _, fun w2 h2 => ?_, rfl, refB_zero _ _, fun _ => by simp, Nat.zero_le _, by simp⟩
    have key : ∀ {e : TypeId} {sz n : Nat} {v : Value} {xs : List Value}, (98 : TypeId) ≠ e → w'.ownsRow W.heap.size e sz v n xs → w2.ownsRow W.heap.size e sz v n xs := fun he ho => own_kp ho (fun q hq => h2 q (own_lt ho q hq).2 (hcn q (own_lt ho q hq).1 (fun e => hB.not_row he ho (by rw [hq, e]))))
    have e1 := hv.hn
    have e2 := hv.hm
    have e3 := hv.b1
    have e4 := hv.b2
    exact ⟨⟨rfl, rfl, by rw [e1]; exact e3, by rw [e2]; exact e4, own_rdv (key (by decide) o1), own_rdv (key (by decide) o2)⟩, own_rdv (key (by decide) o3)⟩
/-- a pair of streams is laid into the World -/
theorem Wd.setS {col : Nat → Nat} {c : Nat} {W : World} {q : Nat} {pv rv : Nat → Value} {lv mv : Value} {N : Nat} {vl vm : List Value} {sp sr : Nat → Option Ss} {B : Nat} (h : Wd col c W q pv rv lv mv N vl vm sp sr B) {k : Nat} (hk : k < 2) {s r : Value} {y : Option Ss} (hs : SlotP col (c + 1 + 4 * k) W y s) (hr : SlotR col (c + 1 + 4 * k) W y B r) : Wd col c ((W.setCell ⟨q, k, none⟩ s).setCell ⟨q, 2 + k, none⟩ r) q (upK pv k s) (upK rv k r) lv mv N vl vm (upK sp k y) (upK sr k y) B := by
  have hk2 : Kp (fun j => j = q) W ((W.setCell ⟨q, k, none⟩ s).setCell ⟨q, 2 + k, none⟩ r) := ((Kp.refl (fun j => j = q) W).set q k s (fun _ => rfl)).set q (2 + k) r (fun _ => rfl)
  have hcq := h.cq
  have hb := (h.bk.set k s).set (2 + k) r
  refine ⟨?_, hcq, fun i hi => ?_, fun i hi => ?_, ownKp h.rl hk2 (fun j hj hs => ?_), ownKp h.rm hk2 (fun j hj hs => ?_), h.cl, h.cm, fun i x y hx hy => ?_⟩
  · match k, hk with
    | 0, _ => exact hb
    | 1, _ => exact hb
  · by_cases e : i = k
    · subst e; rw [upK_same, upK_same]
      exact hs.kp hk2 (fun j hj hs => by subst hs; omega) (fun _ _ _ => rfl)
    · rw [upK_other pv s e, upK_other sp y e]
      exact (h.P i hi).kp hk2 (fun j hj hs => by subst hs; omega) (fun _ _ _ => rfl)
  · by_cases e : i = k
    · subst e; rw [upK_same, upK_same]
      exact hr.kp hk2 (fun j hj hs => by subst hs; omega) (fun _ _ _ => rfl)
    · rw [upK_other rv r e, upK_other sr y e]
      exact (h.R i hi).kp hk2 (fun j hj hs => by subst hs; omega) (fun _ _ _ => rfl)
  · have := h.cl j hj; subst hs; omega
  · have := h.cm j hj; subst hs; omega
  · obtain ⟨l, h1, h2⟩ := h.mks i x y hx hy
    exact ⟨l, h1, h2.move hk2 (fun j hj hs he => by subst hs; omega) (fun j hj he => he)⟩
end Go.Proofs.Ytcambbnmeiolgaa
