import Derived.Test.YtcambbnmeiolgaaWtsP
namespace Go.Proofs.Ytcambbnmeiolgaa
open Go.RowKit
/-! One stream and two texts -/
structure OneS (w w6 : World) (p1 : Nat) (v1 : Value × Value) (wds : List (List Int)) (s1 : List ByteArray) (wr : World) (av bv : Value) (oa ob : List Int) (x1 : List UInt8 × Bool) : Prop where
  lo : w.heap.size ≤ p1
  lw : w.heap.size ≤ w6.heap.size
  st1 : Sta w6 p1 v1.1 v1.2 wds s1
  b1 : ∃ cs, Blk w6 p1 cs 85
  sz : w6.heap.size ≤ wr.heap.size
  kp : ∀ k, k < w6.heap.size → k ≠ p1 → wr.heap[k]? = w6.heap[k]?
  c1 : ∃ T, Blk wr p1 (SC v1.1 v1.2 T (.slice none 0 0) x1.2) 85 ∧ lst T = x1.1
  ra : wr.ownsRow w6.heap.size 5 1 av oa.length (B8 oa)
  rb : wr.ownsRow w6.heap.size 5 1 bv ob.length (B8 ob)
  ap : av.ownBlock = none ∨ av.ownBlock ≠ bv.ownBlock
  t1 : x1.1.length ≤ 18
  bl : Below w.heap.size w wr
section
variable {w w6 : World} {p1 : Nat} {v1 : Value × Value} {wds : List (List Int)} {s1 : List ByteArray} {wr : World} {av bv : Value} {oa ob : List Int} {x1 : List UInt8 × Bool}
theorem OneS.swap (h : OneS w w6 p1 v1 wds s1 wr av bv oa ob x1) : OneS w w6 p1 v1 wds s1 wr bv av ob oa x1 :=
  ⟨h.lo, h.lw, h.st1, h.b1, h.sz, h.kp, h.c1, h.rb, h.ra, by
    rcases h.ap with e | e
    · rcases hq : bv.ownBlock with _ | q
      · exact .inl rfl
      · exact .inr (by rw [e]; simp)
    · exact .inr e.symm, h.t1, h.bl⟩
theorem OneS.lt1 (h : OneS w w6 p1 v1 wds s1 wr av bv oa ob x1) : p1 < w6.heap.size := by obtain ⟨cs, hb⟩ := h.b1; exact hb.lt
theorem OneS.str (h : OneS w w6 p1 v1 wds s1 wr av bv oa ob x1) : StrV wr p1 v1.1 v1.2 wds s1 x1.1 x1.2 := by
  obtain ⟨cs, hb⟩ := h.b1
  obtain ⟨T, hT, hl⟩ := h.c1
  exact ⟨T, h.st1.kp (fun k h1 h2 _ => h.kp k h1 h2) hb, hT, hl⟩
theorem OneS.below {w' : World} (h : OneS w w6 p1 v1 wds s1 wr av bv oa ob x1) (hb : Below wr.heap.size wr w') : OneS w w6 p1 v1 wds s1 w' av bv oa ob x1 := by
  have hs := h.sz
  obtain ⟨T1, hT1, e1⟩ := h.c1
  exact ⟨h.lo, h.lw, h.st1, h.b1, Nat.le_trans hs hb.size, fun k h1 h2 => (hb.block k (by omega)).trans (h.kp k h1 h2), ⟨T1, hT1.below hb, e1⟩, own_below h.ra hb, own_below h.rb hb, h.ap, h.t1, bthen h.bl hb⟩
/-- the first stream moves -/
theorem OneS.move {w' : World} {x : List UInt8 × Bool} (h : OneS w w6 p1 v1 wds s1 wr av bv oa ob x1) (hs : StrV w' p1 v1.1 v1.2 wds s1 x.1 x.2) (hx : x.1.length ≤ 18) (hg : wr.grownBy w' (some p1)) : OneS w w6 p1 v1 wds s1 w' av bv oa ob x := by
  have hz := h.sz
  obtain ⟨T, _, hT1, e1⟩ := hs
  have h1 := h.lt1
  have hr : ∀ {v : Value} {n : Nat} {xs : List Value}, wr.ownsRow w6.heap.size 5 1 v n xs → v.ownBlock = none ∨ v.ownBlock ≠ some p1 := fun ho => .inr (fun he => by have := (own_lt ho _ he).1; omega)
  exact ⟨h.lo, h.lw, h.st1, h.b1, Nat.le_trans hz hg.size, fun k h1 h2 => (hg.block k (by omega) (fun he => h2 (by injection he))).trans (h.kp k h1 h2), ⟨T, hT1, e1⟩, h.ra.kept hg (hr h.ra), h.rb.kept hg (hr h.rb), h.ap, hx, bgrown h.bl hg h.lo⟩
/-- the first text grows -/
theorem OneS.text {w' : World} {av' : Value} {o : List Int} {n : Nat} (h : OneS w w6 p1 v1 wds s1 wr av bv oa ob x1) (ho : w'.ownsRow w6.heap.size 5 1 av' n (B8 (oa ++ o))) (hn : n = (oa ++ o).length) (hg : wr.grownBy w' av.ownBlock) (hor : av'.ownBlock = av.ownBlock ∨ ∀ q, av'.ownBlock = some q → wr.heap.size ≤ q) : OneS w w6 p1 v1 wds s1 w' av' bv (oa ++ o) ob x1 := by
  subst hn
  have hz := h.sz
  obtain ⟨T1, hT1, e1⟩ := h.c1
  have h1 := h.lt1
  have hq : ∀ q, av.ownBlock = some q → w6.heap.size ≤ q := fun q hq => (own_lt h.ra q hq).1
  have hap : bv.ownBlock = none ∨ bv.ownBlock ≠ av.ownBlock := h.swap.ap
  refine ⟨h.lo, h.lw, h.st1, h.b1, Nat.le_trans hz hg.size, fun k h1 h2 => (hg.block k (by omega) (fun he => by have := hq k he.symm; omega)).trans (h.kp k h1 h2), ⟨T1, hT1.kept hg (fun he => by have := hq _ he.symm; omega), e1⟩, ho, h.rb.kept hg hap, ?_, h.t1, ?_⟩
  · rcases hor with e | e
    · rw [e]; exact h.ap
    · cases ha : av'.ownBlock with
      | none => exact .inl rfl
      | some q =>
        refine .inr (fun he => ?_)
        have h3 := e q ha
        have h4 := (own_lt h.rb q he.symm).2
        omega
  · have := h.lw
    exact h.bl.grown hg h.bl.size (fun k e => by have := hq k e; omega)
/-- Feed of the first stream -/
theorem OneS.feed (h : OneS w w6 p1 v1 wds s1 wr av bv oa ob x1) (A : Option Addr) (n c : Nat) (l : List Int) (hl : l.length = n) (hn : n ≤ 1099511627776) (hx : Rd wr A (I64 l)) (hA : ∀ b o, A = some ⟨b, o, none⟩ → 0 < n → b ≠ p1) (hok : okTs wds.length l) :
    Calls Try.prog 18 #[.pointer (some ⟨p1, 0, none⟩), .slice A n c] wr fun en w' => ∃ u, en = .returned (.tuple #[u, .int .i64 0]) ∧ w'.ownsRow w6.heap.size 5 1 u (feedU (s1.map lst) wds (x1.1, [], x1.2) l).2.1.length (B8 (feedU (s1.map lst) wds (x1.1, [], x1.2) l).2.1) ∧ (∀ q, u.ownBlock = some q → av.ownBlock ≠ some q ∧ bv.ownBlock ≠ some q) ∧ OneS w w6 p1 v1 wds s1 w' av bv oa ob ((feedU (s1.map lst) wds (x1.1, [], x1.2) l).1, (feedU (s1.map lst) wds (x1.1, [], x1.2) l).2.2) := by
  refine (feed_anyV A n c l wr p1 v1.1 v1.2 wds s1 x1.1 x1.2 h.str h.t1 hl hn hx hA hok).mono ?_
  rintro en w' ⟨u, rfl, ou, hs, hg⟩
  have hlen := (feedU_len (s1.map lst) wds h.st1.lens (fun x hx => (h.st1.w16 x hx).1) l (x1.1, [], x1.2) h.t1).1
  refine ⟨u, rfl, own_base ou h.sz, fun q hq => ⟨fun he => ?_, fun he => ?_⟩, h.move (x := (_, _)) hs hlen hg⟩
  · have := (own_lt ou q hq).1; have := (own_lt h.ra q he).2; omega
  · have := (own_lt ou q hq).1; have := (own_lt h.rb q he).2; omega
/-- Close of the first stream -/
theorem OneS.close (h : OneS w w6 p1 v1 wds s1 wr av bv oa ob x1) (h0 : 0 < wds.length) :
    Calls Try.prog 22 #[.pointer (some ⟨p1, 0, none⟩)] wr fun en w' => ∃ u, en = .returned u ∧ w'.ownsRow w6.heap.size 5 1 u (if x1.2 then [] else bI x1.1).length (B8 (if x1.2 then [] else bI x1.1)) ∧ (∀ q, u.ownBlock = some q → av.ownBlock ≠ some q ∧ bv.ownBlock ≠ some q) ∧ OneS w w6 p1 v1 wds s1 w' av bv oa ob ((if x1.2 then x1.1 else []), true) := by
  refine (close_bothV wr p1 v1.1 v1.2 wds s1 x1.1 x1.2 h.str h.t1 h0).mono ?_
  rintro en w' ⟨u, rfl, ou, hs, hg⟩
  refine ⟨u, rfl, own_base ou h.sz, fun q hq => ⟨fun he => ?_, fun he => ?_⟩, h.move (x := (_, _)) hs (by have := h.t1; dsimp only; split <;> simp_all) hg⟩
  · have := (own_lt ou q hq).1; have := (own_lt h.ra q he).2; omega
  · have := (own_lt ou q hq).1; have := (own_lt h.rb q he).2; omega
/-- join onto the first text -/
theorem OneS.join (h : OneS w w6 p1 v1 wds s1 wr av bv oa ob x1) (U : Option Addr) (un uc : Nat) (o : List Int) (ou : wr.ownsRow w6.heap.size 5 1 (.slice U un uc) o.length (B8 o)) (hu : o.length = un) (hne : ∀ q, (Value.slice U un uc).ownBlock = some q → av.ownBlock ≠ some q) (hs : oa.length + o.length ≤ 70368744177664) :
    Calls Try.prog 19 #[av, .slice U un uc] wr fun en w' => ∃ av', en = .returned av' ∧ OneS w w6 p1 v1 wds s1 w' av' bv (oa ++ o) ob x1 := by
  refine (join_any wr w6.heap.size av oa.length oa U un uc o h.ra h.sz hu (own_rdv ou) ?_ (by omega)).mono ?_
  · intro b o' hU hpos
    subst hU
    exact hne b rfl
  · rintro en w' ⟨av', rfl, ho, hg, hor⟩
    exact ⟨av', rfl, h.text ho (by simp; omega) hg hor⟩
theorem OneS.over (h : OneS w w6 p1 v1 wds s1 wr av bv oa ob x1) : Calls Try.prog 21 #[.pointer (some ⟨p1, 0, none⟩)] wr fun en w' => en = .returned (.bool x1.2) ∧ wr = w' := over_any _ _ _ _ _ _ h.str.strm
end
theorem OneS.close' {w w6 : World} {p1 : Nat} {v1 : Value × Value} {wds : List (List Int)} {s1 : List ByteArray} {wr : World} {av bv : Value} {oa ob : List Int} {x1 : List UInt8 × Bool} (h : OneS w w6 p1 v1 wds s1 wr av bv oa ob x1) (h0 : 0 < wds.length) (o : List Int) (tl : List UInt8) (ho : (if x1.2 then [] else bI x1.1) = o) (ht : (if x1.2 then x1.1 else []) = tl) :
    Calls Try.prog 22 #[.pointer (some ⟨p1, 0, none⟩)] wr fun en w' => ∃ u, en = .returned u ∧ w'.ownsRow w6.heap.size 5 1 u o.length (B8 o) ∧ (∀ q, u.ownBlock = some q → av.ownBlock ≠ some q ∧ bv.ownBlock ≠ some q) ∧ OneS w w6 p1 v1 wds s1 w' av bv oa ob (tl, true) := by
  have := h.close h0
  rwa [ho, ht] at this
theorem OneS.ints {w w6 : World} {p1 : Nat} {v1 : Value × Value} {wds : List (List Int)} {s1 : List ByteArray} {wr : World} {av bv : Value} {oa ob : List Int} {x1 : List UInt8 × Bool} (h : OneS w w6 p1 v1 wds s1 wr av bv oa ob x1) {base : Nat} {e : TypeId} {size n : Nat} {v : Value} {xs : List Value} (he : (85 : TypeId) ≠ e) (ho : w6.ownsRow base e size v n xs) : wr.ownsRow base e size v n xs := by
  obtain ⟨c1, b1⟩ := h.b1
  refine own_kp ho (fun q hq => h.kp q (own_lt ho q hq).2 ?_)
  rintro rfl
  exact b1.not_row he ho hq.symm
theorem one_new {w w6 : World} {p1 : Nat} {wds : List (List Int)} {s1 : List ByteArray} (hb : Below w.heap.size w w6) (h1 : Strm w6 p1 wds s1 [] false) (l1 : w.heap.size ≤ p1) :
    ∃ v1, OneS w w6 p1 v1 wds s1 w6 (.slice none 0 0) (.slice none 0 0) [] [] ([], false) := by
  have k1 := h1.blk
  obtain ⟨a1, b1, T1, e1, f1, g1⟩ := h1
  exact ⟨(a1, b1), l1, hb.size, e1, k1, Nat.le_refl _, fun _ _ _ => rfl, ⟨T1, f1, g1⟩, World.ownsRow_nil _ _ _ _, World.ownsRow_nil _ _ _ _, .inl rfl, by simp, hb⟩
end Go.Proofs.Ytcambbnmeiolgaa
