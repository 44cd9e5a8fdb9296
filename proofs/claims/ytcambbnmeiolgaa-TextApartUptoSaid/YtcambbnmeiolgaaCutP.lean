import Derived.Test.YtcambbnmeiolgaaTwo
namespace Go.Proofs.Ytcambbnmeiolgaa
open Go.RowKit
def cutF (sts : List (List UInt8)) (wds : List (List Int)) (all : List Int) (j : Nat) : S3 := feedU sts wds ([], [], false) (all.take j)
theorem cutF_add (sts : List (List UInt8)) (wds : List (List Int)) (all : List Int) (a n : Nat) : cutF sts wds all (a + n) = sh (cutF sts wds all a).2.1 (feedU sts wds ((cutF sts wds all a).1, [], (cutF sts wds all a).2.2) ((all.drop a).take n)) := by
  unfold cutF
  rw [List.take_add, feedU_more]
theorem cutF_len (sts : List (List UInt8)) (wds : List (List Int)) (hs : ∀ s ∈ sts, s.length ≤ 16) (hw : ∀ l ∈ wds, l.length ≤ 16) (all : List Int) (j : Nat) : (cutF sts wds all j).2.1.length ≤ 16 * all.length := by
  have := (feedU_len sts wds hs hw (all.take j) ([], [], false) (by simp)).2
  unfold cutF
  simp only [List.length_nil, List.length_take] at this
  omega
theorem rd_piece {w : World} {g : Nat} {l : List Int} (h : Rd w (some ⟨g, 0, none⟩) (I64 l)) (a n : Nat) (hle : a + n ≤ l.length) : Rd w (some ⟨g, a, none⟩) (I64 ((l.drop a).take n)) := by
  refine .inr ⟨g, a, rfl, fun i hi => ?_⟩
  have hi2 : i < n := by simp [I64] at hi; omega
  have := h.cell0 (a + i) (by simp [I64]; omega)
  rw [this]
  simp [I64, hi2]
theorem TwoS.ints {w w6 : World} {p1 p2 : Nat} {v1 v2 : Value × Value} {wds : List (List Int)} {s1 s2 : List ByteArray} {wr : World} {av bv : Value} {oa ob : List Int} {x1 x2 : List UInt8 × Bool} (h : TwoS w w6 p1 p2 v1 v2 wds s1 s2 wr av bv oa ob x1 x2) {base : Nat} {e : TypeId} {size n : Nat} {v : Value} {xs : List Value} (he : (85 : TypeId) ≠ e) (ho : w6.ownsRow base e size v n xs) : wr.ownsRow base e size v n xs := by
  obtain ⟨c1, b1⟩ := h.b1
  obtain ⟨c2, b2⟩ := h.b2
  refine own_kp ho (fun q hq => h.kp q (own_lt ho q hq).2 ?_ ?_)
  · rintro rfl; exact b1.not_row he ho hq.symm
  · rintro rfl; exact b2.not_row he ho hq.symm
theorem TwoS.close' {w w6 : World} {p1 p2 : Nat} {v1 v2 : Value × Value} {wds : List (List Int)} {s1 s2 : List ByteArray} {wr : World} {av bv : Value} {oa ob : List Int} {x1 x2 : List UInt8 × Bool} (h : TwoS w w6 p1 p2 v1 v2 wds s1 s2 wr av bv oa ob x1 x2) (h0 : 0 < wds.length) (o : List Int) (tl : List UInt8) (ho : (if x1.2 then [] else bI x1.1) = o) (ht : (if x1.2 then x1.1 else []) = tl) :
    Calls Try.prog 22 #[.pointer (some ⟨p1, 0, none⟩)] wr fun en w' => ∃ u, en = .returned u ∧ w'.ownsRow w6.heap.size 5 1 u o.length (B8 o) ∧ (∀ q, u.ownBlock = some q → av.ownBlock ≠ some q ∧ bv.ownBlock ≠ some q) ∧ TwoS w w6 p1 p2 v1 v2 wds s1 s2 w' av bv oa ob (tl, true) x2 := by
  have := h.close h0
  rwa [ho, ht] at this
theorem Strm.blk {w : World} {p : Nat} {wds : List (List Int)} {sts : List ByteArray} {t : List UInt8} {e : Bool} (h : Strm w p wds sts t e) : ∃ cs, Blk w p cs 85 := by
  obtain ⟨_, _, _, _, h, _⟩ := h
  exact ⟨_, h⟩
/-- two fresh streams and two empty texts -/
theorem two_new {w w6 : World} {p1 p2 : Nat} {wds : List (List Int)} {s1 s2 : List ByteArray} (hb : Below w.heap.size w w6) (h1 : Strm w6 p1 wds s1 [] false) (h2 : Strm w6 p2 wds s2 [] false) (hne : p1 ≠ p2) (l1 : w.heap.size ≤ p1) (l2 : w.heap.size ≤ p2) :
    ∃ v1 v2, TwoS w w6 p1 p2 v1 v2 wds s1 s2 w6 (.slice none 0 0) (.slice none 0 0) [] [] ([], false) ([], false) := by
  have k1 := h1.blk
  have k2 := h2.blk
  obtain ⟨a1, b1, T1, e1, f1, g1⟩ := h1
  obtain ⟨a2, b2, T2, e2, f2, g2⟩ := h2
  exact ⟨(a1, b1), (a2, b2), hne, ⟨l1, l2⟩, hb.size, e1, e2, k1, k2, Nat.le_refl _, fun _ _ _ _ => rfl, ⟨T1, f1, g1⟩, ⟨T2, f2, g2⟩, World.ownsRow_nil _ _ _ _, World.ownsRow_nil _ _ _ _, .inl rfl, by simp, by simp, hb⟩
end Go.Proofs.Ytcambbnmeiolgaa
