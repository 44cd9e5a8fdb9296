import Derived.Test.YtcambbnmeiolgaaTwo2
namespace Go.Proofs.Ytcambbnmeiolgaa
open Go.RowKit
/-! Four streams over one vocabulary, four texts, and the two arrays that hold the texts -/
def upd {α : Type} (f : Nat → α) (i : Nat) (a : α) : Nat → α := fun j => if j = i then a else f j
theorem upd_same {α : Type} (f : Nat → α) (i : Nat) (a : α) : upd f i a i = a := by unfold upd; rw [if_pos rfl]
theorem upd_other {α : Type} (f : Nat → α) {i j : Nat} (a : α) (h : j ≠ i) : upd f i a j = f j := by unfold upd; rw [if_neg h]
theorem Sta.kpn {w6 wr : World} {N : Nat} {p : Nat → Nat} {i0 : Nat} {wv sv : Value} {wds : List (List Int)} {sts : List ByteArray} (h : Sta w6 (p i0) wv sv wds sts) (hk : ∀ k, k < w6.heap.size → (∀ i, i < N → k ≠ p i) → wr.heap[k]? = w6.heap[k]?) (hb : ∀ i, i < N → ∃ cs, Blk w6 (p i) cs 85) : Sta wr (p i0) wv sv wds sts := by
  obtain ⟨vals, h1, h2, h3, h4⟩ := h.wo
  have key : ∀ {base : Nat} {e : TypeId} {size n : Nat} {v : Value} {xs : List Value}, (85 : TypeId) ≠ e → w6.ownsRow base e size v n xs → wr.ownsRow base e size v n xs := by
    intro base e size n v xs he ho
    refine own_kp ho (fun q hq => hk q (own_lt ho q hq).2 ?_)
    intro i hi hqi
    obtain ⟨cs, hbi⟩ := hb i hi
    subst hqi
    exact hbi.not_row he ho hq.symm
  exact ⟨⟨vals, key (by decide) h1, ⟨h2.1, fun i v hi => key (by decide) (h2.2 i v hi)⟩, h3, h4⟩, ⟨key (by decide) h.so.1, h.so.2⟩, h.w64, h.w16, h.s4, h.s16⟩
structure Fam (w w6 : World) (p : Nat → Nat) (v : Nat → Value × Value) (wds : List (List Int)) (s : Nat → List ByteArray) (gq hq : Nat) (wr : World) (ga ha : Array Value) (tv : Nat → Value) (t : Nat → List Int) (x : Nat → List UInt8 × Bool) : Prop where
  ne : ∀ i j, i < 4 → j < 4 → i ≠ j → p i ≠ p j
  lo : ∀ i, i < 4 → w.heap.size ≤ p i
  lw : w.heap.size ≤ w6.heap.size
  st : ∀ i, i < 4 → Sta w6 (p i) (v i).1 (v i).2 wds (s i)
  bk : ∀ i, i < 4 → ∃ cs, Blk w6 (p i) cs 85
  sz : w6.heap.size ≤ wr.heap.size
  kp : ∀ k, k < w6.heap.size → (∀ i, i < 4 → k ≠ p i) → wr.heap[k]? = w6.heap[k]?
  c : ∀ i, i < 4 → ∃ T, Blk wr (p i) (SC (v i).1 (v i).2 T (.slice none 0 0) (x i).2) 85 ∧ lst T = (x i).1
  r : ∀ j, j < 4 → wr.ownsRow w6.heap.size 5 1 (tv j) (t j).length (B8 (t j))
  ap : ∀ j k, j < 4 → k < 4 → j ≠ k → (tv j).ownBlock = none ∨ (tv j).ownBlock ≠ (tv k).ownBlock
  tl : ∀ i, i < 4 → (x i).1.length ≤ 18
  bl : Below w.heap.size w wr
  g : Blk wr gq ga 54
  h : Blk wr hq ha 54
  gz : w6.heap.size ≤ gq
  hz : w6.heap.size ≤ hq
  gh : gq ≠ hq
section
variable {w w6 : World} {p : Nat → Nat} {v : Nat → Value × Value} {wds : List (List Int)} {s : Nat → List ByteArray} {gq hq : Nat} {wr : World} {ga ha : Array Value} {tv : Nat → Value} {t : Nat → List Int} {x : Nat → List UInt8 × Bool}
theorem Fam.lt (h : Fam w w6 p v wds s gq hq wr ga ha tv t x) {i : Nat} (hi : i < 4) : p i < w6.heap.size := by obtain ⟨cs, hb⟩ := h.bk i hi; exact hb.lt
theorem Fam.str (h : Fam w w6 p v wds s gq hq wr ga ha tv t x) {i : Nat} (hi : i < 4) : StrV wr (p i) (v i).1 (v i).2 wds (s i) (x i).1 (x i).2 := by
  obtain ⟨T, hT, hl⟩ := h.c i hi
  exact ⟨T, (h.st i hi).kpn h.kp h.bk, hT, hl⟩
theorem Fam.below {w' : World} (h : Fam w w6 p v wds s gq hq wr ga ha tv t x) (hb : Below wr.heap.size wr w') : Fam w w6 p v wds s gq hq w' ga ha tv t x := by
  have hs := h.sz
  exact ⟨h.ne, h.lo, h.lw, h.st, h.bk, Nat.le_trans hs hb.size, fun k h1 h2 => (hb.block k (by omega)).trans (h.kp k h1 h2), fun i hi => by obtain ⟨T, hT, e⟩ := h.c i hi; exact ⟨T, hT.below hb, e⟩, fun j hj => own_below (h.r j hj) hb, h.ap, h.tl, bthen h.bl hb, h.g.below hb, h.h.below hb, h.gz, h.hz, h.gh⟩
/-- a stream moves -/
theorem Fam.move {w' : World} {y : List UInt8 × Bool} (h : Fam w w6 p v wds s gq hq wr ga ha tv t x) {i : Nat} (hi : i < 4) (hs : StrV w' (p i) (v i).1 (v i).2 wds (s i) y.1 y.2) (hx : y.1.length ≤ 18) (hg : wr.grownBy w' (some (p i))) : Fam w w6 p v wds s gq hq w' ga ha tv t (upd x i y) := by
  have hz := h.sz
  obtain ⟨T, _, hT, e⟩ := hs
  have h1 := h.lt hi
  have hr : ∀ {v : Value} {n : Nat} {xs : List Value}, wr.ownsRow w6.heap.size 5 1 v n xs → v.ownBlock = none ∨ v.ownBlock ≠ some (p i) := fun ho => .inr (fun he => by have := (own_lt ho _ he).1; omega)
  refine ⟨h.ne, h.lo, h.lw, h.st, h.bk, Nat.le_trans hz hg.size, fun k h1 h2 => (hg.block k (by omega) (fun he => h2 i hi (by injection he))).trans (h.kp k h1 h2), fun j hj => ?_, fun j hj => (h.r j hj).kept hg (hr (h.r j hj)), h.ap, fun j hj => ?_, bgrown h.bl hg (h.lo i hi), h.g.kept hg (fun he => by injection he with he; have := h.gz; omega), h.h.kept hg (fun he => by injection he with he; have := h.hz; omega), h.gz, h.hz, h.gh⟩
  · by_cases hji : j = i
    · subst hji; rw [upd_same]; exact ⟨T, hT, e⟩
    · rw [upd_other x y hji]
      obtain ⟨T2, hT2, e2⟩ := h.c j hj
      exact ⟨T2, hT2.kept hg (fun he => h.ne j i hj hi hji (by injection he)), e2⟩
  · by_cases hji : j = i
    · subst hji; rw [upd_same]; exact hx
    · rw [upd_other x y hji]; exact h.tl j hj
/-- Feed of a stream; other rows stay -/
theorem Fam.feed (h : Fam w w6 p v wds s gq hq wr ga ha tv t x) {i : Nat} (hi : i < 4) (A : Option Addr) (n c : Nat) (l : List Int) (hl : l.length = n) (hn : n ≤ 1099511627776) (hx : Rd wr A (I64 l)) (hA : ∀ b o, A = some ⟨b, o, none⟩ → 0 < n → b ≠ p i) (hok : okTs wds.length l) (S : List UInt8 × List Int × Bool) (hS : feedU ((s i).map lst) wds ((x i).1, [], (x i).2) l = S) :
    Calls Try.prog 18 #[.pointer (some ⟨p i, 0, none⟩), .slice A n c] wr fun en w' => ∃ U uc, en = .returned (.tuple #[.slice U S.2.1.length uc, .int .i64 0]) ∧ w'.ownsRow wr.heap.size 5 1 (.slice U S.2.1.length uc) S.2.1.length (B8 S.2.1) ∧ (∀ (base : Nat) (e : TypeId) (sz : Nat) (v : Value) (n : Nat) (xs : List Value), w6.heap.size ≤ base → wr.ownsRow base e sz v n xs → w'.ownsRow base e sz v n xs) ∧ Fam w w6 p v wds s gq hq w' ga ha tv t (upd x i (S.1, S.2.2)) := by
  subst hS
  refine (feed_anyV A n c l wr (p i) (v i).1 (v i).2 wds (s i) (x i).1 (x i).2 (h.str hi) (h.tl i hi) hl hn hx hA hok).mono ?_
  rintro en w' ⟨u, rfl, ou, hs, hg⟩
  have hlen := (feedU_len ((s i).map lst) wds (h.st i hi).lens (fun x hx => ((h.st i hi).w16 x hx).1) l ((x i).1, [], (x i).2) (h.tl i hi)).1
  obtain ⟨U, uc, rfl, _, _⟩ := own_rd ou
  refine ⟨U, uc, rfl, ou, fun base e sz v n xs hb ho => ho.kept hg (.inr (fun he => ?_)), h.move hi (y := (_, _)) hs hlen hg⟩
  have := (own_lt ho _ he).1
  have := h.lt hi
  omega
/-- Close of a stream; other rows stay -/
theorem Fam.close (h : Fam w w6 p v wds s gq hq wr ga ha tv t x) {i : Nat} (hi : i < 4) (h0 : 0 < wds.length) (o : List Int) (tl : List UInt8) (ho : (if (x i).2 then [] else bI (x i).1) = o) (ht : (if (x i).2 then (x i).1 else []) = tl) :
    Calls Try.prog 22 #[.pointer (some ⟨p i, 0, none⟩)] wr fun en w' => ∃ U uc, en = .returned (.slice U o.length uc) ∧ w'.ownsRow wr.heap.size 5 1 (.slice U o.length uc) o.length (B8 o) ∧ (∀ (base : Nat) (e : TypeId) (sz : Nat) (v : Value) (n : Nat) (xs : List Value), w6.heap.size ≤ base → wr.ownsRow base e sz v n xs → w'.ownsRow base e sz v n xs) ∧ Fam w w6 p v wds s gq hq w' ga ha tv t (upd x i (tl, true)) := by
  subst ho ht
  refine (close_bothV wr (p i) (v i).1 (v i).2 wds (s i) (x i).1 (x i).2 (h.str hi) (h.tl i hi) h0).mono ?_
  rintro en w' ⟨u, rfl, ou, hs, hg⟩
  obtain ⟨U, uc, rfl, _, _⟩ := own_rd ou
  refine ⟨U, uc, rfl, ou, fun base e sz v n xs hb ho => ho.kept hg (.inr (fun he => ?_)), h.move hi (y := (_, _)) hs (by have := h.tl i hi; dsimp only; split <;> simp_all) hg⟩
  have := (own_lt ho _ he).1
  have := h.lt hi
  omega
/-- join onto a text; the arrays are as they were -/
theorem Fam.join (h : Fam w w6 p v wds s gq hq wr ga ha tv t x) {j : Nat} (hj : j < 4) (base : Nat) (U : Option Addr) (un uc : Nat) (o o' : List Int) (ou : wr.ownsRow base 5 1 (.slice U un uc) o.length (B8 o)) (hu : o.length = un) (hne : ∀ q, (Value.slice U un uc).ownBlock = some q → (tv j).ownBlock ≠ some q) (hs : (t j).length + o.length ≤ 70368744177664) (ho' : t j ++ o = o') :
    Calls Try.prog 19 #[tv j, .slice U un uc] wr fun en w' => ∃ A ac, en = .returned (.slice A o'.length ac) ∧ Fam w w6 p v wds s gq hq w' ga ha (upd tv j (.slice A o'.length ac)) (upd t j o') x := by
  subst ho'
  refine (join_any wr w6.heap.size (tv j) (t j).length (t j) U un uc o (h.r j hj) h.sz hu (own_rdv ou) ?_ (by omega)).mono ?_
  · intro b o' hU hpos
    subst hU
    exact hne b rfl
  · rintro en w' ⟨av', rfl, ho, hg, hor⟩
    have hn : (t j ++ o).length = (t j).length + un := by rw [List.length_append, hu]
    rw [← hn] at ho
    obtain ⟨A, ac, rfl, _, _⟩ := own_rd ho
    have hz := h.sz
    have hq' : ∀ q, (tv j).ownBlock = some q → w6.heap.size ≤ q := fun q hq => (own_lt (h.r j hj) q hq).1
    have hgz := h.gz
    have hhz := h.hz
    refine ⟨A, ac, rfl, h.ne, h.lo, h.lw, h.st, h.bk, Nat.le_trans hz hg.size, fun k h1 h2 => (hg.block k (by omega) (fun he => by have := hq' k he.symm; omega)).trans (h.kp k h1 h2), fun i hi => ?_, fun k hk => ?_, fun k l hk hl hkl => ?_, h.tl, ?_, h.g.kept hg (h.g.not_row (by decide) (h.r j hj)), h.h.kept hg (h.h.not_row (by decide) (h.r j hj)), hgz, hhz, h.gh⟩
    · obtain ⟨T, hT, e⟩ := h.c i hi
      exact ⟨T, hT.kept hg (fun he => by have := hq' _ he.symm; have := h.lt hi; omega), e⟩
    · by_cases hkj : k = j
      · subst hkj; rw [upd_same, upd_same]; exact ho
      · rw [upd_other tv _ hkj, upd_other t _ hkj]
        exact (h.r k hk).kept hg (h.ap k j hk hj hkj)
    · by_cases hkj : k = j
      · subst hkj
        rw [upd_same, upd_other tv _ (Ne.symm hkl)]
        rcases hor with e | e
        · rw [e]; exact h.ap k l hk hl hkl
        · cases ha : (Value.slice A (t k ++ o).length ac).ownBlock with
          | none => exact .inl rfl
          | some q =>
            refine .inr (fun he => ?_)
            have h3 := e q ha
            have h4 := (own_lt (h.r l hl) q he.symm).2
            omega
      · by_cases hlj : l = j
        · subst hlj
          rw [upd_same, upd_other tv _ hkj]
          rcases hor with e | e
          · rw [e]; exact h.ap k l hk hl hkl
          · rcases hb : (tv k).ownBlock with _ | q
            · exact .inl rfl
            · refine .inr (fun he => ?_)
              have h3 := e q he.symm
              have h4 := (own_lt (h.r k hk) q hb).2
              omega
        · rw [upd_other tv _ hkj, upd_other tv _ hlj]; exact h.ap k l hk hl hkl
    · have := h.lw
      exact h.bl.grown hg h.bl.size (fun k e => by have := hq' k e; omega)
theorem Fam.over (h : Fam w w6 p v wds s gq hq wr ga ha tv t x) {i : Nat} (hi : i < 4) : Calls Try.prog 21 #[.pointer (some ⟨p i, 0, none⟩)] wr fun en w' => en = .returned (.bool (x i).2) ∧ wr = w' := over_any _ _ _ _ _ _ (h.str hi).strm
/-- a row made later is none of the texts' -/
theorem Fam.fresh (h : Fam w w6 p v wds s gq hq wr ga ha tv t x) {w' : World} {e : TypeId} {sz n : Nat} {u : Value} {xs : List Value} (ho : w'.ownsRow wr.heap.size e sz u n xs) {j : Nat} (hj : j < 4) : ∀ q, u.ownBlock = some q → (tv j).ownBlock ≠ some q :=
  fun q hq he => by have := (own_lt ho q hq).1; have := (own_lt (h.r j hj) q he).2; omega
theorem Fam.ints (h : Fam w w6 p v wds s gq hq wr ga ha tv t x) {base : Nat} {e : TypeId} {size n : Nat} {u : Value} {xs : List Value} (he : (85 : TypeId) ≠ e) (ho : w6.ownsRow base e size u n xs) : wr.ownsRow base e size u n xs := by
  refine own_kp ho (fun q hq => h.kp q (own_lt ho q hq).2 (fun i hi hqi => ?_))
  obtain ⟨cs, hb⟩ := h.bk i hi
  subst hqi
  exact hb.not_row he ho hq.symm
/-- a text is laid into the first array -/
theorem Fam.setG (h : Fam w w6 p v wds s gq hq wr ga ha tv t x) (k : Nat) (u : Value) : Fam w w6 p v wds s gq hq (wr.setCell ⟨gq, k, none⟩ u) (ga.setIfInBounds k u) ha tv t x := by
  have hlo := h.lw
  have hgz := h.gz
  refine ⟨h.ne, h.lo, h.lw, h.st, h.bk, by rw [World.size_setCell]; exact h.sz, fun k' h1 h2 => ?_, fun i hi => ?_, fun j hj => own_set_other (h.r j hj) gq k u (h.g.not_row (by decide) (h.r j hj)), h.ap, h.tl, h.bl.setCell (p := ⟨gq, k, none⟩) (by show w.heap.size ≤ gq; omega) u, ?_, h.h.other ⟨gq, k, none⟩ u (by show hq ≠ gq; exact h.gh.symm), h.gz, h.hz, h.gh⟩
  · rw [Below.heap_setCell _ _ _ _ (by show k' ≠ gq; omega)]; exact h.kp k' h1 h2
  · obtain ⟨T, hT, e⟩ := h.c i hi
    exact ⟨T, hT.other ⟨gq, k, none⟩ u (by show p i ≠ gq; have := h.lt hi; omega), e⟩
  · exact h.g.set k u
theorem Fam.setH (h : Fam w w6 p v wds s gq hq wr ga ha tv t x) (k : Nat) (u : Value) : Fam w w6 p v wds s gq hq (wr.setCell ⟨hq, k, none⟩ u) ga (ha.setIfInBounds k u) tv t x := by
  have hlo := h.lw
  have hhz := h.hz
  refine ⟨h.ne, h.lo, h.lw, h.st, h.bk, by rw [World.size_setCell]; exact h.sz, fun k' h1 h2 => ?_, fun i hi => ?_, fun j hj => own_set_other (h.r j hj) hq k u (h.h.not_row (by decide) (h.r j hj)), h.ap, h.tl, h.bl.setCell (p := ⟨hq, k, none⟩) (by show w.heap.size ≤ hq; omega) u, h.g.other ⟨hq, k, none⟩ u (by show gq ≠ hq; exact h.gh), ?_, h.gz, h.hz, h.gh⟩
  · rw [Below.heap_setCell _ _ _ _ (by show k' ≠ hq; omega)]; exact h.kp k' h1 h2
  · obtain ⟨T, hT, e⟩ := h.c i hi
    exact ⟨T, hT.other ⟨hq, k, none⟩ u (by show p i ≠ hq; have := h.lt hi; omega), e⟩
  · exact h.h.set k u
end
end Go.Proofs.Ytcambbnmeiolgaa
