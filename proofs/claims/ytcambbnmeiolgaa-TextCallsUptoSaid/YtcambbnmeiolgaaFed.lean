import Derived.Test.YtcambbnmeiolgaaTokW
namespace Go.Proofs.Ytcambbnmeiolgaa
open Go.RowKit

theorem tokU_over (sts : List (List UInt8)) (wds : List (List Int)) (s : S3) (k : Nat) (h : s.2.2 = true) : tokU sts wds s k = s := by
  unfold tokU
  split
  · unfold endU; rw [if_pos h]
  · exact bytesU_over sts _ s h
/-- tokens come -/
def feedU (sts : List (List UInt8)) (wds : List (List Int)) (s : S3) (l : List Int) : S3 := l.foldl (fun s k => tokU sts wds s k.toNat) s
theorem feedU_snoc (sts : List (List UInt8)) (wds : List (List Int)) (s : S3) (l : List Int) (k : Int) : feedU sts wds s (l ++ [k]) = tokU sts wds (feedU sts wds s l) k.toNat := by simp [feedU]
theorem feedU_append (sts : List (List UInt8)) (wds : List (List Int)) (s : S3) (l m : List Int) : feedU sts wds s (l ++ m) = feedU sts wds (feedU sts wds s l) m := by simp [feedU]
theorem feedU_over (sts : List (List UInt8)) (wds : List (List Int)) (l : List Int) : ∀ (s : S3), s.2.2 = true → feedU sts wds s l = s := by
  induction l with
  | nil => intro s _; rfl
  | cons k l ih =>
    intro s h
    show feedU sts wds (tokU sts wds s k.toNat) l = s
    rw [tokU_over sts wds s _ h]
    exact ih s h
theorem feedU_len (sts : List (List UInt8)) (wds : List (List Int)) (hs : ∀ s ∈ sts, s.length ≤ 16) (hw : ∀ l ∈ wds, l.length ≤ 16) (l : List Int) : ∀ (s : S3), s.1.length ≤ 18 → (feedU sts wds s l).1.length ≤ 18 ∧ (feedU sts wds s l).2.1.length + (feedU sts wds s l).1.length ≤ s.2.1.length + s.1.length + 16 * l.length := by
  induction l with
  | nil => intro s h; exact ⟨h, by simp [feedU]⟩
  | cons k l ih =>
    intro s h
    obtain ⟨h1, h2⟩ := tokU_len sts wds hs hw s k.toNat h
    obtain ⟨h3, h4⟩ := ih _ h1
    refine ⟨h3, ?_⟩
    show (feedU sts wds (tokU sts wds s k.toNat) l).2.1.length + (feedU sts wds (tokU sts wds s k.toNat) l).1.length ≤ _
    simp only [List.length_cons]
    omega

/-- a stream between two calls -/
def Strm (w : World) (p : Nat) (wds : List (List Int)) (sts : List ByteArray) (t : List UInt8) (e : Bool) : Prop :=
  ∃ wv sv T, Sta w p wv sv wds sts ∧ Blk w p (SC wv sv T (.slice none 0 0) e) 85 ∧ lst T = t
theorem Strm.below {w w' : World} {p : Nat} {wds : List (List Int)} {sts : List ByteArray} {t : List UInt8} {e : Bool} (h : Strm w p wds sts t e) (hb : Below w.heap.size w w') : Strm w' p wds sts t e := by
  obtain ⟨wv, sv, T, h1, h2, h3⟩ := h
  exact ⟨wv, sv, T, h1.kept (grown_below (World.grownBy.refl w (some p)) hb), h2.below hb, h3⟩
theorem Strm.lt {w : World} {p : Nat} {wds : List (List Int)} {sts : List ByteArray} {t : List UInt8} {e : Bool} (h : Strm w p wds sts t e) : p < w.heap.size := by
  obtain ⟨_, _, _, _, h2, _⟩ := h
  exact h2.lt

def TakenOut (w0 : World) (p : Nat) (wv sv : Value) (t : List UInt8) (o : List Int) (e : Bool) (en : Ending) (w' : World) : Prop :=
  ∃ u T, en = .returned u ∧ w'.ownsRow w0.heap.size 5 1 u o.length (B8 o) ∧ lst T = t ∧ Blk w' p (SC wv sv T (.slice none 0 0) e) 85 ∧ w0.grownBy w' (some p)
set_option maxRecDepth 100000 in
set_option maxHeartbeats 400000 in
/-- taken -/
theorem taken_any (w0 w : World) (p : Nat) (wv sv : Value) (t : List UInt8) (o : List Int) (e : Bool) (h : Str w0 w p wv sv t o e) :
    Calls Try.prog 47 #[.pointer (some ⟨p, 0, none⟩)] w (TakenOut w0 p wv sv t o e) := by
  obtain ⟨ov, T, hT, hb0, ho, hg⟩ := h
  obtain ⟨oA, oc, rfl, _, _⟩ := own_rd ho
  have x3 : w.cell? ⟨p, 3, none⟩ = some (.slice oA o.length oc) := hb0.cell _
  have z3 := hb0.frozen 3
  have a3 : (⟨p, 0, none⟩ : Addr).add 3 = ⟨p, 3, none⟩ := by simpa using addr_add p 0 3
  have TO := Lib.hid (show TakenOut w0 p wv sv t o e (.returned (.slice oA o.length oc)) (w.setCell ⟨p, 3, none⟩ (.slice none 0 0)) from
    ⟨_, T, rfl, own_set_other ho p 3 _ (hb0.not_row (by decide) ho), hT, hb0.set 3 (.slice none 0 0), grown_step hg (grown_set _ _ _ _) (.inl rfl)⟩)
  clear hT hb0 ho hg
  go_enter Try.func47, Try.ntmps47
  go_wp2
  go_returns
  exact TO.out
set_option maxRecDepth 100000 in
set_option maxHeartbeats 400000 in
/-- Over -/
theorem over_any (w : World) (p : Nat) (wds : List (List Int)) (sts : List ByteArray) (t : List UInt8) (e : Bool) (h : Strm w p wds sts t e) :
    Calls Try.prog 21 #[.pointer (some ⟨p, 0, none⟩)] w fun en w' => en = .returned (.bool e) ∧ w = w' := by
  obtain ⟨wv, sv, T, _, hb0, _⟩ := h
  have x4 : w.cell? ⟨p, 4, none⟩ = some (.bool e) := hb0.cell _
  have a4 : (⟨p, 0, none⟩ : Addr).add 4 = ⟨p, 4, none⟩ := by simpa using addr_add p 0 4
  clear hb0
  go_enter Try.func21, Try.ntmps21
  go_wp2
  go_returns
  exact ⟨rfl, rfl⟩
theorem over_nil (w : World) : Calls Try.prog 21 #[.pointer none] w fun en w' => en = .returned (.bool false) ∧ w = w' := by
  go_enter Try.func21, Try.ntmps21
  go_wp2
  go_returns
  exact ⟨rfl, rfl⟩
/-- Close, of a stream that is not over -/
def CloseOut (w : World) (p : Nat) (wds : List (List Int)) (sts : List ByteArray) (o : List Int) (en : Ending) (w' : World) : Prop :=
  ∃ u, en = .returned u ∧ w'.ownsRow w.heap.size 5 1 u o.length (B8 o) ∧ Strm w' p wds sts [] true ∧ w.grownBy w' (some p)
set_option maxRecDepth 100000 in
set_option maxHeartbeats 400000 in
theorem close_any (w : World) (p : Nat) (wds : List (List Int)) (sts : List ByteArray) (t : List UInt8) (h : Strm w p wds sts t false) (ht : t.length ≤ 18) (h0 : 0 < wds.length) :
    Calls Try.prog 22 #[.pointer (some ⟨p, 0, none⟩)] w (CloseOut w p wds sts (bI t)) := by
  obtain ⟨wv, sv, T, hS, hb0, hT⟩ := h
  have x4 : w.cell? ⟨p, 4, none⟩ = some (.bool false) := hb0.cell _
  have a4 : (⟨p, 0, none⟩ : Addr).add 4 = ⟨p, 4, none⟩ := by simpa using addr_add p 0 4
  have hst : Str w w p wv sv t [] false := ⟨_, T, hT, hb0, World.ownsRow_nil _ _ _ _, World.grownBy.refl w _⟩
  clear hb0
  go_enter Try.func22, Try.ntmps22
  go_wp2_with fail
  refine (token_any p wv sv wds sts t [] 0 w w hS hst h0 ht (by simp)).mono ?_
  rintro e w1 ⟨rfl, hst1⟩
  rw [show tokU (sts.map lst) wds (t, [], false) 0 = ([], [] ++ bI t, true) from rfl] at hst1
  simp only [List.nil_append] at hst1
  go_wp2_with fail
  refine (taken_any w w1 p wv sv [] (bI t) true hst1).mono ?_
  rintro e w2 ⟨u, T', rfl, ou, hT', hb2, hg⟩
  have CO := Lib.hid (show CloseOut w p wds sts (bI t) (.returned u) w2 from ⟨u, rfl, ou, ⟨wv, sv, T', hS.kept hg, hb2, hT'⟩, hg⟩)
  clear hst hst1 ou hb2 hg hT'
  go_wp2
  go_returns
  exact CO.out
set_option maxRecDepth 100000 in
set_option maxHeartbeats 400000 in
/-- Close, of a stream that is over -/
theorem close_over (w : World) (p : Nat) (wds : List (List Int)) (sts : List ByteArray) (t : List UInt8) (h : Strm w p wds sts t true) :
    Calls Try.prog 22 #[.pointer (some ⟨p, 0, none⟩)] w fun en w' => en = .returned (.slice none 0 0) ∧ w = w' := by
  obtain ⟨wv, sv, T, _, hb0, _⟩ := h
  have x4 : w.cell? ⟨p, 4, none⟩ = some (.bool true) := hb0.cell _
  have a4 : (⟨p, 0, none⟩ : Addr).add 4 = ⟨p, 4, none⟩ := by simpa using addr_add p 0 4
  clear hb0
  go_enter Try.func22, Try.ntmps22
  go_wp2
  go_returns
  exact ⟨rfl, rfl⟩
theorem close_nil (w : World) : Calls Try.prog 22 #[.pointer none] w fun en w' => en = .returned (.slice none 0 0) ∧ w = w' := by
  go_enter Try.func22, Try.ntmps22
  go_wp2
  go_returns
  exact ⟨rfl, rfl⟩
theorem feed_nil (A : Option Addr) (n c : Nat) (w : World) : Calls Try.prog 18 #[.pointer none, .slice A n c] w fun en w' => en = .returned (.tuple #[.slice none 0 0, .int .i64 1]) ∧ w = w' := by
  go_enter Try.func18, Try.ntmps18
  go_wp2
  go_returns
  exact ⟨rfl, rfl⟩
end Go.Proofs.Ytcambbnmeiolgaa
