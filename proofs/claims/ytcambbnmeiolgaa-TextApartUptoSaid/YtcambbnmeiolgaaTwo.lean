import Derived.Test.YtcambbnmeiolgaaJon
namespace Go.Proofs.Ytcambbnmeiolgaa
open Go.RowKit
/-! What was given out, put together; two streams and two texts side by side -/
def sh (o : List Int) (s : S3) : S3 := (s.1, o ++ s.2.1, s.2.2)
theorem stepU_sh (sts : List (List UInt8)) (o : List Int) (s : S3) (b : UInt8) : stepU sts (sh o s) b = sh o (stepU sts s b) := by
  unfold stepU sh
  dsimp only
  split
  · rfl
  · split <;> simp
theorem bytesU_sh (sts : List (List UInt8)) (o : List Int) (l : List Int) : ∀ s : S3, bytesU sts (sh o s) l = sh o (bytesU sts s l) := by
  induction l with
  | nil => intro s; rfl
  | cons x l ih =>
    intro s
    show bytesU sts (stepU sts (sh o s) (u8 x)) l = _
    rw [stepU_sh]
    exact ih _
theorem tokU_sh (sts : List (List UInt8)) (wds : List (List Int)) (o : List Int) (s : S3) (k : Nat) : tokU sts wds (sh o s) k = sh o (tokU sts wds s k) := by
  unfold tokU
  split
  · unfold endU sh
    dsimp only
    split
    · rfl
    · simp
  · exact bytesU_sh _ _ _ _
theorem feedU_sh (sts : List (List UInt8)) (wds : List (List Int)) (o : List Int) (l : List Int) : ∀ s : S3, feedU sts wds (sh o s) l = sh o (feedU sts wds s l) := by
  induction l with
  | nil => intro s; rfl
  | cons x l ih =>
    intro s
    show feedU sts wds (tokU sts wds (sh o s) x.toNat) l = _
    rw [tokU_sh]
    exact ih _
/-- a further piece -/
theorem feedU_more (sts : List (List UInt8)) (wds : List (List Int)) (s : S3) (l m : List Int) : feedU sts wds s (l ++ m) = sh (feedU sts wds s l).2.1 (feedU sts wds ((feedU sts wds s l).1, [], (feedU sts wds s l).2.2) m) := by
  rw [feedU_append, ← feedU_sh]
  simp [sh]
theorem own_kp {w wr : World} {base : Nat} {e : TypeId} {size n : Nat} {v : Value} {xs : List Value} (h : w.ownsRow base e size v n xs) (hk : ∀ q, v.ownBlock = some q → wr.heap[q]? = w.heap[q]?) : wr.ownsRow base e size v n xs := by
  refine ⟨h.1, ?_⟩
  rcases h.2 with h | ⟨g, cap, cur, h1, h2, h3, h4⟩
  · exact .inl h
  · exact .inr ⟨g, cap, cur, h1, h2, (hk g (by rw [h1]; rfl)).trans h3, h4⟩
theorem Sta.kp {w6 wr : World} {p p2 : Nat} {wv sv : Value} {wds : List (List Int)} {sts : List ByteArray} {cs : Array Value} (h : Sta w6 p wv sv wds sts) (hk : ∀ k, k < w6.heap.size → k ≠ p → k ≠ p2 → wr.heap[k]? = w6.heap[k]?) (hb : Blk w6 p2 cs 85) : Sta wr p wv sv wds sts := by
  obtain ⟨vals, h1, h2, h3, h4⟩ := h.wo
  have key : ∀ {base : Nat} {e : TypeId} {size n : Nat} {v : Value} {xs : List Value}, (85 : TypeId) ≠ e → w6.ownsRow base e size v n xs → (v.ownBlock = none ∨ v.ownBlock ≠ some p) → wr.ownsRow base e size v n xs := by
    intro base e size n v xs he ho hp
    refine own_kp ho (fun q hq => hk q (own_lt ho q hq).2 ?_ ?_)
    · rintro rfl
      rcases hp with h | h
      · rw [h] at hq; cases hq
      · exact h hq
    · rintro rfl
      exact hb.not_row he ho hq.symm
  exact ⟨⟨vals, key (by decide) h1 h3, ⟨h2.1, fun i v hi => key (by decide) (h2.2 i v hi) (h4 v (List.mem_of_getElem? hi))⟩, h3, h4⟩, ⟨key (by decide) h.so.1 h.so.2, h.so.2⟩, h.w64, h.w16, h.s4, h.s16⟩

structure TwoS (w w6 : World) (p1 p2 : Nat) (v1 v2 : Value × Value) (wds : List (List Int)) (s1 s2 : List ByteArray) (wr : World) (av bv : Value) (oa ob : List Int) (x1 x2 : List UInt8 × Bool) : Prop where
  ne : p1 ≠ p2
  lo : w.heap.size ≤ p1 ∧ w.heap.size ≤ p2
  lw : w.heap.size ≤ w6.heap.size
  st1 : Sta w6 p1 v1.1 v1.2 wds s1
  st2 : Sta w6 p2 v2.1 v2.2 wds s2
  b1 : ∃ cs, Blk w6 p1 cs 85
  b2 : ∃ cs, Blk w6 p2 cs 85
  sz : w6.heap.size ≤ wr.heap.size
  kp : ∀ k, k < w6.heap.size → k ≠ p1 → k ≠ p2 → wr.heap[k]? = w6.heap[k]?
  c1 : ∃ T, Blk wr p1 (SC v1.1 v1.2 T (.slice none 0 0) x1.2) 85 ∧ lst T = x1.1
  c2 : ∃ T, Blk wr p2 (SC v2.1 v2.2 T (.slice none 0 0) x2.2) 85 ∧ lst T = x2.1
  ra : wr.ownsRow w6.heap.size 5 1 av oa.length (B8 oa)
  rb : wr.ownsRow w6.heap.size 5 1 bv ob.length (B8 ob)
  ap : av.ownBlock = none ∨ av.ownBlock ≠ bv.ownBlock
  t1 : x1.1.length ≤ 18
  t2 : x2.1.length ≤ 18
  bl : Below w.heap.size w wr
section
variable {w w6 : World} {p1 p2 : Nat} {v1 v2 : Value × Value} {wds : List (List Int)} {s1 s2 : List ByteArray} {wr : World} {av bv : Value} {oa ob : List Int} {x1 x2 : List UInt8 × Bool}
theorem TwoS.swap (h : TwoS w w6 p1 p2 v1 v2 wds s1 s2 wr av bv oa ob x1 x2) : TwoS w w6 p2 p1 v2 v1 wds s2 s1 wr bv av ob oa x2 x1 :=
  ⟨h.ne.symm, h.lo.symm, h.lw, h.st2, h.st1, h.b2, h.b1, h.sz, fun k h1 h2 h3 => h.kp k h1 h3 h2, h.c2, h.c1, h.rb, h.ra, by
    rcases h.ap with e | e
    · rcases hq : bv.ownBlock with _ | q
      · exact .inl rfl
      · exact .inr (by rw [e]; simp)
    · exact .inr e.symm, h.t2, h.t1, h.bl⟩
theorem TwoS.lt1 (h : TwoS w w6 p1 p2 v1 v2 wds s1 s2 wr av bv oa ob x1 x2) : p1 < w6.heap.size := by obtain ⟨cs, hb⟩ := h.b1; exact hb.lt
theorem TwoS.str (h : TwoS w w6 p1 p2 v1 v2 wds s1 s2 wr av bv oa ob x1 x2) : StrV wr p1 v1.1 v1.2 wds s1 x1.1 x1.2 := by
  obtain ⟨cs, hb⟩ := h.b2
  obtain ⟨T, hT, hl⟩ := h.c1
  exact ⟨T, h.st1.kp h.kp hb, hT, hl⟩
theorem TwoS.below {w' : World} (h : TwoS w w6 p1 p2 v1 v2 wds s1 s2 wr av bv oa ob x1 x2) (hb : Below wr.heap.size wr w') : TwoS w w6 p1 p2 v1 v2 wds s1 s2 w' av bv oa ob x1 x2 := by
  have hs := h.sz
  obtain ⟨T1, hT1, e1⟩ := h.c1
  obtain ⟨T2, hT2, e2⟩ := h.c2
  exact ⟨h.ne, h.lo, h.lw, h.st1, h.st2, h.b1, h.b2, Nat.le_trans hs hb.size, fun k h1 h2 h3 => (hb.block k (by omega)).trans (h.kp k h1 h2 h3), ⟨T1, hT1.below hb, e1⟩, ⟨T2, hT2.below hb, e2⟩, own_below h.ra hb, own_below h.rb hb, h.ap, h.t1, h.t2, bthen h.bl hb⟩
/-- the first stream moves -/
theorem TwoS.move {w' : World} {x : List UInt8 × Bool} (h : TwoS w w6 p1 p2 v1 v2 wds s1 s2 wr av bv oa ob x1 x2) (hs : StrV w' p1 v1.1 v1.2 wds s1 x.1 x.2) (hx : x.1.length ≤ 18) (hg : wr.grownBy w' (some p1)) : TwoS w w6 p1 p2 v1 v2 wds s1 s2 w' av bv oa ob x x2 := by
  have hz := h.sz
  obtain ⟨T, _, hT1, e1⟩ := hs
  obtain ⟨T2, hT2, e2⟩ := h.c2
  have h1 := h.lt1
  have hr : ∀ {v : Value} {n : Nat} {xs : List Value}, wr.ownsRow w6.heap.size 5 1 v n xs → v.ownBlock = none ∨ v.ownBlock ≠ some p1 := fun ho => .inr (fun he => by have := (own_lt ho _ he).1; omega)
  exact ⟨h.ne, h.lo, h.lw, h.st1, h.st2, h.b1, h.b2, Nat.le_trans hz hg.size, fun k h1 h2 h3 => (hg.block k (by omega) (fun he => h2 (by injection he))).trans (h.kp k h1 h2 h3), ⟨T, hT1, e1⟩, ⟨T2, hT2.kept hg (fun he => h.ne (by injection he with he; exact he.symm)), e2⟩, h.ra.kept hg (hr h.ra), h.rb.kept hg (hr h.rb), h.ap, hx, h.t2, bgrown h.bl hg h.lo.1⟩
/-- the first text grows -/
theorem TwoS.text {w' : World} {av' : Value} {o : List Int} {n : Nat} (h : TwoS w w6 p1 p2 v1 v2 wds s1 s2 wr av bv oa ob x1 x2) (ho : w'.ownsRow w6.heap.size 5 1 av' n (B8 (oa ++ o))) (hn : n = (oa ++ o).length) (hg : wr.grownBy w' av.ownBlock) (hor : av'.ownBlock = av.ownBlock ∨ ∀ q, av'.ownBlock = some q → wr.heap.size ≤ q) : TwoS w w6 p1 p2 v1 v2 wds s1 s2 w' av' bv (oa ++ o) ob x1 x2 := by
  subst hn
  have hz := h.sz
  obtain ⟨T1, hT1, e1⟩ := h.c1
  obtain ⟨T2, hT2, e2⟩ := h.c2
  have h1 := h.lt1
  have h2 := h.swap.lt1
  have hq : ∀ q, av.ownBlock = some q → w6.heap.size ≤ q := fun q hq => (own_lt h.ra q hq).1
  have hap : bv.ownBlock = none ∨ bv.ownBlock ≠ av.ownBlock := h.swap.ap
  refine ⟨h.ne, h.lo, h.lw, h.st1, h.st2, h.b1, h.b2, Nat.le_trans hz hg.size, fun k h1 h2 h3 => (hg.block k (by omega) (fun he => by have := hq k he.symm; omega)).trans (h.kp k h1 h2 h3), ⟨T1, hT1.kept hg (fun he => by have := hq _ he.symm; omega), e1⟩, ⟨T2, hT2.kept hg (fun he => by have := hq _ he.symm; omega), e2⟩, ho, h.rb.kept hg hap, ?_, h.t1, h.t2, ?_⟩
  · rcases hor with e | e
    · rw [e]; exact h.ap
    · cases ha : av'.ownBlock with
      | none => exact .inl rfl
      | some q =>
        refine .inr (fun he => ?_)
        have h3 := e q ha
        have h4 := (own_lt h.rb q he.symm).2
        omega
  · have := h.lw
    exact h.bl.grown hg h.bl.size (fun k e => by have := hq k e; omega)
/-- Feed of the first stream -/
theorem TwoS.feed (h : TwoS w w6 p1 p2 v1 v2 wds s1 s2 wr av bv oa ob x1 x2) (A : Option Addr) (n c : Nat) (l : List Int) (hl : l.length = n) (hn : n ≤ 1099511627776) (hx : Rd wr A (I64 l)) (hA : ∀ b o, A = some ⟨b, o, none⟩ → 0 < n → b ≠ p1) (hok : okTs wds.length l) :
    Calls Try.prog 18 #[.pointer (some ⟨p1, 0, none⟩), .slice A n c] wr fun en w' => ∃ u, en = .returned (.tuple #[u, .int .i64 0]) ∧ w'.ownsRow w6.heap.size 5 1 u (feedU (s1.map lst) wds (x1.1, [], x1.2) l).2.1.length (B8 (feedU (s1.map lst) wds (x1.1, [], x1.2) l).2.1) ∧ (∀ q, u.ownBlock = some q → av.ownBlock ≠ some q ∧ bv.ownBlock ≠ some q) ∧ TwoS w w6 p1 p2 v1 v2 wds s1 s2 w' av bv oa ob ((feedU (s1.map lst) wds (x1.1, [], x1.2) l).1, (feedU (s1.map lst) wds (x1.1, [], x1.2) l).2.2) x2 := by
  refine (feed_anyV A n c l wr p1 v1.1 v1.2 wds s1 x1.1 x1.2 h.str h.t1 hl hn hx hA hok).mono ?_
  rintro en w' ⟨u, rfl, ou, hs, hg⟩
  have hlen := (feedU_len (s1.map lst) wds h.st1.lens (fun x hx => (h.st1.w16 x hx).1) l (x1.1, [], x1.2) h.t1).1
  refine ⟨u, rfl, own_base ou h.sz, fun q hq => ⟨fun he => ?_, fun he => ?_⟩, h.move (x := (_, _)) hs hlen hg⟩
  · have := (own_lt ou q hq).1; have := (own_lt h.ra q he).2; omega
  · have := (own_lt ou q hq).1; have := (own_lt h.rb q he).2; omega
/-- Close of the first stream -/
theorem TwoS.close (h : TwoS w w6 p1 p2 v1 v2 wds s1 s2 wr av bv oa ob x1 x2) (h0 : 0 < wds.length) :
    Calls Try.prog 22 #[.pointer (some ⟨p1, 0, none⟩)] wr fun en w' => ∃ u, en = .returned u ∧ w'.ownsRow w6.heap.size 5 1 u (if x1.2 then [] else bI x1.1).length (B8 (if x1.2 then [] else bI x1.1)) ∧ (∀ q, u.ownBlock = some q → av.ownBlock ≠ some q ∧ bv.ownBlock ≠ some q) ∧ TwoS w w6 p1 p2 v1 v2 wds s1 s2 w' av bv oa ob ((if x1.2 then x1.1 else []), true) x2 := by
  refine (close_bothV wr p1 v1.1 v1.2 wds s1 x1.1 x1.2 h.str h.t1 h0).mono ?_
  rintro en w' ⟨u, rfl, ou, hs, hg⟩
  refine ⟨u, rfl, own_base ou h.sz, fun q hq => ⟨fun he => ?_, fun he => ?_⟩, h.move (x := (_, _)) hs (by have := h.t1; dsimp only; split <;> simp_all) hg⟩
  · have := (own_lt ou q hq).1; have := (own_lt h.ra q he).2; omega
  · have := (own_lt ou q hq).1; have := (own_lt h.rb q he).2; omega
/-- join onto the first text -/
theorem TwoS.join (h : TwoS w w6 p1 p2 v1 v2 wds s1 s2 wr av bv oa ob x1 x2) (U : Option Addr) (un uc : Nat) (o : List Int) (ou : wr.ownsRow w6.heap.size 5 1 (.slice U un uc) o.length (B8 o)) (hu : o.length = un) (hne : ∀ q, (Value.slice U un uc).ownBlock = some q → av.ownBlock ≠ some q) (hs : oa.length + o.length ≤ 70368744177664) :
    Calls Try.prog 19 #[av, .slice U un uc] wr fun en w' => ∃ av', en = .returned av' ∧ TwoS w w6 p1 p2 v1 v2 wds s1 s2 w' av' bv (oa ++ o) ob x1 x2 := by
  refine (join_any wr w6.heap.size av oa.length oa U un uc o h.ra h.sz hu (own_rdv ou) ?_ (by omega)).mono ?_
  · intro b o' hU hpos
    subst hU
    exact hne b rfl
  · rintro en w' ⟨av', rfl, ho, hg, hor⟩
    exact ⟨av', rfl, h.text ho (by simp; omega) hg hor⟩
theorem TwoS.over (h : TwoS w w6 p1 p2 v1 v2 wds s1 s2 wr av bv oa ob x1 x2) : Calls Try.prog 21 #[.pointer (some ⟨p1, 0, none⟩)] wr fun en w' => en = .returned (.bool x1.2) ∧ wr = w' := over_any _ _ _ _ _ _ h.str.strm
end
end Go.Proofs.Ytcambbnmeiolgaa
