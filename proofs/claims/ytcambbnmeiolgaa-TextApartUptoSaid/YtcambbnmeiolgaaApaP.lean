import Derived.Test.YtcambbnmeiolgaaFam
import Derived.Test.YtcambbnmeiolgaaArgP
import Derived.Test.YtcambbnmeiolgaaLateW
namespace Go.Proofs.Ytcambbnmeiolgaa
open Go.RowKit
def quad {α : Type} (a b c d : α) : Nat → α := fun i => match i with | 0 => a | 1 => b | 2 => c | _ => d
theorem upd_q0 {α : Type} (a b c d e : α) : upd (quad a b c d) 0 e = quad e b c d := by
  funext j; unfold upd quad; match j with | 0 => rfl | 1 => rfl | 2 => rfl | j + 3 => rfl
theorem upd_q1 {α : Type} (a b c d e : α) : upd (quad a b c d) 1 e = quad a e c d := by
  funext j; unfold upd quad; match j with | 0 => rfl | 1 => rfl | 2 => rfl | j + 3 => exact (if_neg (by omega)).trans rfl
theorem upd_q2 {α : Type} (a b c d e : α) : upd (quad a b c d) 2 e = quad a b e d := by
  funext j; unfold upd quad; match j with | 0 => rfl | 1 => rfl | 2 => rfl | j + 3 => exact (if_neg (by omega)).trans rfl
/-- the tokens for one of two streams -/
def tokK (N : Nat) (ys : List PcT) (k : Bool) : List Int := ys.flatMap fun y => if y.on = k then rgt N y.l true else []
def cutK (N : Nat) (sts : List (List UInt8)) (wds : List (List Int)) (ys : List PcT) (k : Bool) (i : Nat) : S3 := feedU sts wds ([], [], false) (tokK N (ys.take i) k)
theorem cutK_zero (N : Nat) (sts : List (List UInt8)) (wds : List (List Int)) (ys : List PcT) (k : Bool) : cutK N sts wds ys k 0 = ([], [], false) := rfl
theorem cutK_on {N : Nat} {sts : List (List UInt8)} {wds : List (List Int)} {ys : List PcT} {k : Bool} {i : Nat} (hi : i < ys.length) (h : ys[i].on = k) : cutK N sts wds ys k (i + 1) = sh (cutK N sts wds ys k i).2.1 (feedU sts wds ((cutK N sts wds ys k i).1, [], (cutK N sts wds ys k i).2.2) (rgt N ys[i].l true)) := by
  unfold cutK tokK
  rw [List.take_succ_eq_append_getElem hi, List.flatMap_append, List.flatMap_singleton, if_pos h, feedU_more]
theorem cutK_off {N : Nat} {sts : List (List UInt8)} {wds : List (List Int)} {ys : List PcT} {k : Bool} {i : Nat} (hi : i < ys.length) (h : ¬ ys[i].on = k) : cutK N sts wds ys k (i + 1) = cutK N sts wds ys k i := by
  unfold cutK tokK
  rw [List.take_succ_eq_append_getElem hi, List.flatMap_append, List.flatMap_singleton, if_neg h, List.append_nil]
theorem tokK_len {N : Nat} {ys : List PcT} (h : ∀ y ∈ ys, y.l.length ≤ 1048576) (k : Bool) : (tokK N ys k).length ≤ 1048576 * ys.length := by
  induction ys with
  | nil => simp [tokK]
  | cons y ys ih =>
    have := ih (fun z hz => h z (by simp [hz]))
    have h1 := h y (by simp)
    have h2 := rgt_len N y.l true
    have e : tokK N (y :: ys) k = (if y.on = k then rgt N y.l true else []) ++ tokK N ys k := by simp [tokK]
    have h3 : (if y.on = k then rgt N y.l true else []).length ≤ 1048576 := by
      split
      · omega
      · simp
    rw [e, List.length_append, List.length_cons]
    omega
theorem cutK_len {N : Nat} {sts : List (List UInt8)} {wds : List (List Int)} (hs : ∀ s ∈ sts, s.length ≤ 16) (hw : ∀ l ∈ wds, l.length ≤ 16) {ys : List PcT} (h : ∀ y ∈ ys, y.l.length ≤ 1048576) (hn : ys.length ≤ 1048576) (k : Bool) (i : Nat) : (cutK N sts wds ys k i).2.1.length ≤ 17592186044416 := by
  have h1 := (feedU_len sts wds hs hw (tokK N (ys.take i) k) ([], [], false) (by simp)).2
  have h2 := tokK_len (N := N) (ys := ys.take i) (fun y hy => h y (List.mem_of_mem_take hy)) k
  rw [List.length_take] at h2
  unfold cutK
  simp only [List.length_nil] at h1
  have : min i ys.length ≤ 1048576 := by omega
  have h3 : 1048576 * min i ys.length ≤ 1048576 * 1048576 := Nat.mul_le_mul_left _ this
  omega
/-- four fresh streams and two fresh arrays -/
theorem fam_new {w w6 : World} {p0 p1 p2 p3 : Nat} {wds : List (List Int)} {s1 s2 : List ByteArray} (hb : Below w.heap.size w w6) (h0 : Strm w6 p0 wds s1 [] false) (h1 : Strm w6 p1 wds s2 [] false) (h2 : Strm w6 p2 wds s1 [] false) (h3 : Strm w6 p3 wds s2 [] false) (o1 : p0 < p1) (o2 : p1 < p2) (o3 : p2 < p3) (l0 : w.heap.size ≤ p0) :
    ∃ v, Fam w w6 (quad p0 p1 p2 p3) v wds (quad s1 s2 s1 s2) w6.heap.size (w6.heap.size + 1) ((w6.alloc (.cells #[.slice none 0 0, .slice none 0 0] 54)).alloc (.cells #[.slice none 0 0, .slice none 0 0] 54)) #[.slice none 0 0, .slice none 0 0] #[.slice none 0 0, .slice none 0 0] (quad (.slice none 0 0) (.slice none 0 0) (.slice none 0 0) (.slice none 0 0)) (quad [] [] [] []) (quad ([], false) ([], false) ([], false) ([], false)) := by
  have k0 := h0.blk
  have k1 := h1.blk
  have k2 := h2.blk
  have k3 := h3.blk
  obtain ⟨a0, b0, T0, e0, f0, g0⟩ := h0
  obtain ⟨a1, b1, T1, e1, f1, g1⟩ := h1
  obtain ⟨a2, b2, T2, e2, f2, g2⟩ := h2
  obtain ⟨a3, b3, T3, e3, f3, g3⟩ := h3
  have z1 := World.size_alloc w6 (.cells #[.slice none 0 0, .slice none 0 0] 54)
  have hgrow : Below w6.heap.size w6 ((w6.alloc (.cells #[.slice none 0 0, .slice none 0 0] 54)).alloc (.cells #[.slice none 0 0, .slice none 0 0] 54)) := ((Below.refl _ _).alloc (Nat.le_refl _) _).alloc (by rw [z1]; omega) _
  have hB2 := Blk.new (w6.alloc (.cells #[.slice none 0 0, .slice none 0 0] 54)) #[.slice none 0 0, .slice none 0 0] 54
  rw [z1] at hB2
  have four : ∀ {P : Nat → Prop}, P 0 → P 1 → P 2 → P 3 → ∀ i, i < 4 → P i := by
    intro P h0 h1 h2 h3 i hi
    match i, hi with
    | 0, _ => exact h0
    | 1, _ => exact h1
    | 2, _ => exact h2
    | 3, _ => exact h3
  refine ⟨quad (a0, b0) (a1, b1) (a2, b2) (a3, b3), ?_, four l0 (by show w.heap.size ≤ p1; omega) (by show w.heap.size ≤ p2; omega) (by show w.heap.size ≤ p3; omega), hb.size, four e0 e1 e2 e3, four k0 k1 k2 k3, hgrow.size, fun k hk _ => hgrow.block k hk, four ⟨T0, f0.below hgrow, g0⟩ ⟨T1, f1.below hgrow, g1⟩ ⟨T2, f2.below hgrow, g2⟩ ⟨T3, f3.below hgrow, g3⟩, four (World.ownsRow_nil _ _ _ _) (World.ownsRow_nil _ _ _ _) (World.ownsRow_nil _ _ _ _) (World.ownsRow_nil _ _ _ _), ?_, four (by simp [quad]) (by simp [quad]) (by simp [quad]) (by simp [quad]), bthen hb hgrow, (Blk.new w6 _ 54).alloc _, hB2, Nat.le_refl _, by omega, by omega⟩
  · intro i j hi hj
    refine four (P := fun i => ∀ j, j < 4 → i ≠ j → quad p0 p1 p2 p3 i ≠ quad p0 p1 p2 p3 j) (four ?_ ?_ ?_ ?_) (four ?_ ?_ ?_ ?_) (four ?_ ?_ ?_ ?_) (four ?_ ?_ ?_ ?_) i hi j hj <;> intro h <;> simp only [quad] <;> first | exact absurd rfl h | omega
  · intro j k hj _ _
    refine four (P := fun j => (quad (Value.slice none 0 0) (.slice none 0 0) (.slice none 0 0) (.slice none 0 0) j).ownBlock = none ∨ _) (.inl rfl) (.inl rfl) (.inl rfl) (.inl rfl) j hj
end Go.Proofs.Ytcambbnmeiolgaa
