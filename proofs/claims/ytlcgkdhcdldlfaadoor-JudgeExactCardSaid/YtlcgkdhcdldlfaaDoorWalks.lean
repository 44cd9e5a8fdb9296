import Derived.Test.YtlcgkdhcdldlfaaDoorBase
import Derived.Test.YtlcgkdhcdldlfaaDoorPure
import Derived.WalkKit
import Derived.Handy
import Derived.Outline
import Derived.Lib.Hide
namespace Go.Proofs.YtlcgkdhcdldlfaaDoor
open Go.RowKit

structure Table (w : World) : Prop where
  c0 : w.cell? ⟨0, 0, none⟩ = some (.int .u64 30)
  c1 : w.cell? ⟨0, 1, none⟩ = some (.int .u64 13787848793156543929)
  c2 : w.cell? ⟨0, 2, none⟩ = some (.int .u64 27)
  c3 : w.cell? ⟨0, 3, none⟩ = some (.int .u64 10723151780598845931)
  c4 : w.cell? ⟨0, 4, none⟩ = some (.int .u64 31)
  c5 : w.cell? ⟨0, 5, none⟩ = some (.int .u64 1)

theorem Table.below {w w' : World} (h : Table w) (hb : Below w.heap.size w w') : Table w' := by
  have hs := World.block_lt_of_cell? w _ h.c0
  have e : ∀ j, w'.cell? ⟨0, j, none⟩ = w.cell? ⟨0, j, none⟩ := fun j => hb.cell (p := ⟨0, j, none⟩) hs
  exact ⟨(e 0).trans h.c0, (e 1).trans h.c1, (e 2).trans h.c2, (e 3).trans h.c3, (e 4).trans h.c4, (e 5).trans h.c5⟩
theorem ret_u64 {a b : Int} (h : a = b) : Ending.returned (.int .u64 a) = .returned (.int .u64 b) := by rw [h]

/-- a number of 64 bits -/
def InU (x : Int) : Prop := 0 ≤ x ∧ x < 18446744073709551616
def mixI (x : Int) : Int := ((PureDraw.mix x.toNat : Nat) : Int)
def unmixI (x : Int) : Int := ((PureDraw.unmix x.toNat : Nat) : Int)
theorem InU.nat {x : Int} (h : InU x) : ∃ n : Nat, x = (n : Int) ∧ n < 18446744073709551616 := ⟨x.toNat, by have := h.1; omega, by have := h.1; have := h.2; omega⟩
theorem mixI_in (x : Int) : InU (mixI x) := by
  have := PureDraw.mix_lt x.toNat
  unfold PureDraw.M at this
  unfold InU mixI
  omega
theorem unmixI_in (x : Int) : InU (unmixI x) := by
  have := PureDraw.unmix_lt x.toNat
  unfold PureDraw.M at this
  unfold InU unmixI
  omega
theorem wrap_in (x : Int) : InU (IntKind.u64.wrap x) := by
  rw [IntKind.wrap_u64]
  unfold InU
  omega
theorem xs_int (X s : Nat) (hX : X < 18446744073709551616) : bits .xor .u64 (X : Int) ((X : Int) / (s : Int)) = ((PureDraw.xs s X : Nat) : Int) := xorShift_u64 X s hX
theorem wrap_nat (n : Nat) : IntKind.u64.wrap (n : Int) = ((n % PureDraw.M : Nat) : Int) := by
  rw [IntKind.wrap_u64]
  unfold PureDraw.M
  omega
theorem un_int (X s r : Nat) (hX : X < 18446744073709551616) : bits .xor .u64 (bits .xor .u64 (X : Int) ((X : Int) / (s : Int))) ((X : Int) / (r : Int)) = ((PureDraw.un s r X : Nat) : Int) := by
  rw [xorShift_u64 X s hX]
  have h1 : X ^^^ X / s < 18446744073709551616 := PureDraw.xs_lt (q := s) hX
  have e : (X : Int) / (r : Int) = ((X / r : Nat) : Int) := by simp
  rw [e, bits_xor_u64_nat _ _ h1 (Nat.lt_of_le_of_lt (Nat.div_le_self _ _) hX)]
  rfl
/-- the mixing as the code comes to it -/
theorem mix_form (x : Int) (h : InU x) :
    bits .xor .u64 (IntKind.u64.wrap (bits .xor .u64 (IntKind.u64.wrap (bits .xor .u64 x (x / 1073741824) * 13787848793156543929)) (IntKind.u64.wrap (bits .xor .u64 x (x / 1073741824) * 13787848793156543929) / 134217728) * 10723151780598845931))
      (IntKind.u64.wrap (bits .xor .u64 (IntKind.u64.wrap (bits .xor .u64 x (x / 1073741824) * 13787848793156543929)) (IntKind.u64.wrap (bits .xor .u64 x (x / 1073741824) * 13787848793156543929) / 134217728) * 10723151780598845931) / 2147483648) = mixI x := by
  obtain ⟨n, rfl, hn⟩ := h.nat
  have e1 := xs_int n 1073741824 hn
  have e2 : IntKind.u64.wrap (bits .xor .u64 (n : Int) ((n : Int) / 1073741824) * 13787848793156543929) = ((PureDraw.xs 1073741824 n * 13787848793156543929 % PureDraw.M : Nat) : Int) := by
    rw [show ((1073741824 : Int)) = ((1073741824 : Nat) : Int) from rfl, e1, ← wrap_nat, Int.natCast_mul]
    rfl
  rw [e2]
  generalize hA : PureDraw.xs 1073741824 n * 13787848793156543929 % PureDraw.M = A
  have hA' : A < 18446744073709551616 := hA ▸ PureDraw.mod_lt _
  have e3 := xs_int A 134217728 hA'
  have e4 : IntKind.u64.wrap (bits .xor .u64 (A : Int) ((A : Int) / 134217728) * 10723151780598845931) = ((PureDraw.xs 134217728 A * 10723151780598845931 % PureDraw.M : Nat) : Int) := by
    rw [show ((134217728 : Int)) = ((134217728 : Nat) : Int) from rfl, e3, ← wrap_nat, Int.natCast_mul]
    rfl
  rw [e4]
  have e5 := xs_int (PureDraw.xs 134217728 A * 10723151780598845931 % PureDraw.M) 2147483648 (PureDraw.mod_lt _)
  rw [show ((2147483648 : Int)) = ((2147483648 : Nat) : Int) from rfl, e5, ← hA]
  rfl
theorem mix_form' (x : Int) (h : InU x) :
    IntKind.u64.wrap (bits .xor .u64 (IntKind.u64.wrap (bits .xor .u64 (IntKind.u64.wrap (bits .xor .u64 x (x / 1073741824) * 13787848793156543929)) (IntKind.u64.wrap (bits .xor .u64 x (x / 1073741824) * 13787848793156543929) / 134217728) * 10723151780598845931))
      (IntKind.u64.wrap (bits .xor .u64 (IntKind.u64.wrap (bits .xor .u64 x (x / 1073741824) * 13787848793156543929)) (IntKind.u64.wrap (bits .xor .u64 x (x / 1073741824) * 13787848793156543929) / 134217728) * 10723151780598845931) / 2147483648)) = mixI x := by
  rw [mix_form x h, IntKind.wrap_u64]
  have := mixI_in x
  unfold InU at this
  omega
theorem unmix_form (x : Int) (h : InU x) : ∀ a b : Int, a = IntKind.u64.wrap (bits .xor .u64 (bits .xor .u64 x (x / 2147483648)) (x / 4611686018427387904) * 3573116690164977347) →
    b = IntKind.u64.wrap (bits .xor .u64 (bits .xor .u64 a (a / 134217728)) (a / 18014398509481984) * 10871156337175269513) →
    bits .xor .u64 (bits .xor .u64 b (b / 1073741824)) (b / 1152921504606846976) = unmixI x := by
  obtain ⟨n, rfl, hn⟩ := h.nat
  intro a b ha hb
  have e1 := un_int n 2147483648 4611686018427387904 hn
  have e2 : a = ((PureDraw.un 2147483648 4611686018427387904 n * 3573116690164977347 % PureDraw.M : Nat) : Int) := by
    rw [ha, show ((2147483648 : Int)) = ((2147483648 : Nat) : Int) from rfl, show ((4611686018427387904 : Int)) = ((4611686018427387904 : Nat) : Int) from rfl, e1, ← wrap_nat, Int.natCast_mul]
    rfl
  generalize hA : PureDraw.un 2147483648 4611686018427387904 n * 3573116690164977347 % PureDraw.M = A at e2
  have hA' : A < 18446744073709551616 := hA ▸ PureDraw.mod_lt _
  subst e2
  have e3 := un_int A 134217728 18014398509481984 hA'
  have e4 : b = ((PureDraw.un 134217728 18014398509481984 A * 10871156337175269513 % PureDraw.M : Nat) : Int) := by
    rw [hb, show ((134217728 : Int)) = ((134217728 : Nat) : Int) from rfl, show ((18014398509481984 : Int)) = ((18014398509481984 : Nat) : Int) from rfl, e3, ← wrap_nat, Int.natCast_mul]
    rfl
  generalize hB : PureDraw.un 134217728 18014398509481984 A * 10871156337175269513 % PureDraw.M = B at e4
  have hB' : B < 18446744073709551616 := hB ▸ PureDraw.mod_lt _
  subst e4
  have e5 := un_int B 1073741824 1152921504606846976 hB'
  rw [show ((1073741824 : Int)) = ((1073741824 : Nat) : Int) from rfl, show ((1152921504606846976 : Int)) = ((1152921504606846976 : Nat) : Int) from rfl, e5, ← hB, ← hA]
  rfl
theorem unmix_mixI (x : Int) (h : InU x) : unmixI (mixI x) = x := by
  obtain ⟨n, rfl, hn⟩ := h.nat
  unfold unmixI mixI
  rw [Int.toNat_natCast, Int.toNat_natCast, PureDraw.unmix_mix hn]
theorem mix_unmixI (x : Int) (h : InU x) : mixI (unmixI x) = x := by
  obtain ⟨n, rfl, hn⟩ := h.nat
  unfold unmixI mixI
  rw [Int.toNat_natCast, Int.toNat_natCast, PureDraw.mix_unmix hn]

abbrev tab : Value := .agg #[.int .u64 30, .int .u64 13787848793156543929, .int .u64 27, .int .u64 10723151780598845931, .int .u64 31, .int .u64 1]

set_option maxHeartbeats 400000 in
/-- draw.Mix -/
theorem mix_any (x : Int) (hx : InU x) (w : World) (h : Table w) :
    Calls Tryd.prog 19 #[.int .u64 x] w fun e w' => e = .returned (.int .u64 (mixI x)) ∧ Below w.heap.size w w' := by
  have hf := mix_form' x hx
  have H := Lib.hid hf
  clear hf
  obtain ⟨hx0, hx1⟩ := hx
  have i0 : ∀ w : World, (Instr.index 65 tab (.int .i64 0)).run Tryd.prog w = .ok (.agg #[.int .u64 30, .int .u64 13787848793156543929]) w := fun _ => by kernel_rfl
  have i1 : ∀ w : World, (Instr.index 65 tab (.int .i64 1)).run Tryd.prog w = .ok (.agg #[.int .u64 27, .int .u64 10723151780598845931]) w := fun _ => by kernel_rfl
  have i2 : ∀ w : World, (Instr.index 65 tab (.int .i64 2)).run Tryd.prog w = .ok (.agg #[.int .u64 31, .int .u64 1]) w := fun _ => by kernel_rfl
  obtain ⟨c0, c1, c2, c3, c4, c5⟩ := h
  go_enter Tryd.func19, Tryd.ntmps19
  go_wp2
  go_rounds 4
  go_returns
  refine ⟨ret_u64 ?_, by go_grown⟩
  exact H.out

end Go.Proofs.YtlcgkdhcdldlfaaDoor
