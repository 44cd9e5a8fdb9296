import Derived.Test.YtcambbnmeiolgaaCutP
namespace Go.Proofs.Ytcambbnmeiolgaa
open Go.RowKit
section
variable {w w6 : World} {p1 p2 : Nat} {v1 v2 : Value × Value} {wds : List (List Int)} {s1 s2 : List ByteArray} {wr : World} {av bv : Value} {oa ob : List Int} {x1 x2 : List UInt8 × Bool}
/-- Feed of the first stream; other rows stay -/
theorem TwoS.feed2 (h : TwoS w w6 p1 p2 v1 v2 wds s1 s2 wr av bv oa ob x1 x2) (A : Option Addr) (n c : Nat) (l : List Int) (hl : l.length = n) (hn : n ≤ 1099511627776) (hx : Rd wr A (I64 l)) (hA : ∀ b o, A = some ⟨b, o, none⟩ → 0 < n → b ≠ p1) (hok : okTs wds.length l) (S : List UInt8 × List Int × Bool) (hS : feedU (s1.map lst) wds (x1.1, [], x1.2) l = S) :
    Calls Try.prog 18 #[.pointer (some ⟨p1, 0, none⟩), .slice A n c] wr fun en w' => ∃ U uc, en = .returned (.tuple #[.slice U S.2.1.length uc, .int .i64 0]) ∧ w'.ownsRow wr.heap.size 5 1 (.slice U S.2.1.length uc) S.2.1.length (B8 S.2.1) ∧ (∀ (base : Nat) (e : TypeId) (sz : Nat) (v : Value) (n : Nat) (xs : List Value), w6.heap.size ≤ base → wr.ownsRow base e sz v n xs → w'.ownsRow base e sz v n xs) ∧ TwoS w w6 p1 p2 v1 v2 wds s1 s2 w' av bv oa ob (S.1, S.2.2) x2 := by
  subst hS
  refine (feed_anyV A n c l wr p1 v1.1 v1.2 wds s1 x1.1 x1.2 h.str h.t1 hl hn hx hA hok).mono ?_
  rintro en w' ⟨u, rfl, ou, hs, hg⟩
  have hlen := (feedU_len (s1.map lst) wds h.st1.lens (fun x hx => (h.st1.w16 x hx).1) l (x1.1, [], x1.2) h.t1).1
  obtain ⟨U, uc, rfl, _, _⟩ := own_rd ou
  refine ⟨U, uc, rfl, ou, fun base e sz v n xs hb ho => ho.kept hg (.inr (fun he => ?_)), h.move (x := (_, _)) hs hlen hg⟩
  have := (own_lt ho _ he).1
  have := h.lt1
  omega
/-- Close of the first stream; other rows stay -/
theorem TwoS.close2 (h : TwoS w w6 p1 p2 v1 v2 wds s1 s2 wr av bv oa ob x1 x2) (h0 : 0 < wds.length) (o : List Int) (tl : List UInt8) (ho : (if x1.2 then [] else bI x1.1) = o) (ht : (if x1.2 then x1.1 else []) = tl) :
    Calls Try.prog 22 #[.pointer (some ⟨p1, 0, none⟩)] wr fun en w' => ∃ U uc, en = .returned (.slice U o.length uc) ∧ w'.ownsRow wr.heap.size 5 1 (.slice U o.length uc) o.length (B8 o) ∧ (∀ (base : Nat) (e : TypeId) (sz : Nat) (v : Value) (n : Nat) (xs : List Value), w6.heap.size ≤ base → wr.ownsRow base e sz v n xs → w'.ownsRow base e sz v n xs) ∧ TwoS w w6 p1 p2 v1 v2 wds s1 s2 w' av bv oa ob (tl, true) x2 := by
  subst ho ht
  refine (close_bothV wr p1 v1.1 v1.2 wds s1 x1.1 x1.2 h.str h.t1 h0).mono ?_
  rintro en w' ⟨u, rfl, ou, hs, hg⟩
  obtain ⟨U, uc, rfl, _, _⟩ := own_rd ou
  refine ⟨U, uc, rfl, ou, fun base e sz v n xs hb ho => ho.kept hg (.inr (fun he => ?_)), h.move (x := (_, _)) hs (by have := h.t1; dsimp only; split <;> simp_all) hg⟩
  have := (own_lt ho _ he).1
  have := h.lt1
  omega
/-- join onto the first text; other rows stay -/
theorem TwoS.join2 (h : TwoS w w6 p1 p2 v1 v2 wds s1 s2 wr av bv oa ob x1 x2) (base : Nat) (U : Option Addr) (un uc : Nat) (o o' : List Int) (ou : wr.ownsRow base 5 1 (.slice U un uc) o.length (B8 o)) (hu : o.length = un) (hne : ∀ q, (Value.slice U un uc).ownBlock = some q → av.ownBlock ≠ some q) (hs : oa.length + o.length ≤ 70368744177664) (ho' : oa ++ o = o') :
    Calls Try.prog 19 #[av, .slice U un uc] wr fun en w' => ∃ A ac, en = .returned (.slice A o'.length ac) ∧ (∀ (base : Nat) (e : TypeId) (sz : Nat) (v : Value) (n : Nat) (xs : List Value), wr.ownsRow base e sz v n xs → (v.ownBlock = none ∨ v.ownBlock ≠ av.ownBlock) → w'.ownsRow base e sz v n xs) ∧ TwoS w w6 p1 p2 v1 v2 wds s1 s2 w' (.slice A o'.length ac) bv o' ob x1 x2 := by
  subst ho'
  refine (join_any wr w6.heap.size av oa.length oa U un uc o h.ra h.sz hu (own_rdv ou) ?_ (by omega)).mono ?_
  · intro b o' hU hpos
    subst hU
    exact hne b rfl
  · rintro en w' ⟨av', rfl, ho, hg, hor⟩
    have hT := h.text ho (by simp; omega) hg hor
    obtain ⟨A, ac, rfl, _, _⟩ := own_rd hT.ra
    exact ⟨A, ac, rfl, fun base e sz v n xs hr hv => hr.kept hg hv, hT⟩
/-- a row made later is none of the texts' -/
theorem TwoS.fresh (h : TwoS w w6 p1 p2 v1 v2 wds s1 s2 wr av bv oa ob x1 x2) {w' : World} {e : TypeId} {sz n : Nat} {v : Value} {xs : List Value} (ho : w'.ownsRow wr.heap.size e sz v n xs) : (∀ q, v.ownBlock = some q → av.ownBlock ≠ some q) ∧ (∀ q, v.ownBlock = some q → bv.ownBlock ≠ some q) :=
  ⟨fun q hq he => by have := (own_lt ho q hq).1; have := (own_lt h.ra q he).2; omega, fun q hq he => by have := (own_lt ho q hq).1; have := (own_lt h.rb q he).2; omega⟩
end
theorem apart_of {u v : Value} (h : ∀ q, u.ownBlock = some q → v.ownBlock ≠ some q) : u.ownBlock = none ∨ u.ownBlock ≠ v.ownBlock := by
  rcases hq : u.ownBlock with _ | q
  · exact .inl rfl
  · exact .inr (fun he => h q hq he.symm)
end Go.Proofs.Ytcambbnmeiolgaa
