import Derived.Test.YtlocogccjlecjaaDoorNext
import Derived.StillTailTactics
/- digits -/
namespace Go.Proofs.YtlocogccjlecjaaDoor
open Go.RowKit
/-- a digit's byte -/
def hexB (k : Nat) : Nat := if k < 10 then 48 + k else 87 + k
/-- an escape's bytes -/
def digL (b : Nat) : List Nat := [92, 120, hexB (b / 16), hexB (b % 16)]
def strOf (l : List Nat) : ByteArray := ⟨(l.map Nat.toUInt8).toArray⟩
theorem strOf_size (l : List Nat) : (strOf l).size = l.length := by simp [strOf, ByteArray.size]
theorem strOf_append (l m : List Nat) : strOf l ++ strOf m = strOf (l ++ m) := by
  apply ByteArray.ext
  simp [strOf, ByteArray.data_append]
set_option maxRecDepth 100000 in
set_option maxHeartbeats 4000000 in
theorem digits_any (b : Nat) (hb : b < 256) (w : World) : Calls Tryd.prog 13 #[.int .u8 ((b : Nat) : Int)] w fun e w' => e = .returned (.string (strOf (digL b))) ∧ Below w.heap.size w w' := by
  obtain ⟨h, hh⟩ : ∃ h, h = b / 16 := ⟨_, rfl⟩
  obtain ⟨l, hl⟩ : ∃ l, l = b % 16 := ⟨_, rfl⟩
  have hd : ((b : Nat) : Int) / 16 = ((h : Nat) : Int) := by omega
  have hm : ((b : Nat) : Int).tmod 16 = ((l : Nat) : Int) := by rw [Int.tmod_eq_emod_of_nonneg (by omega)]; omega
  have hw1 : IntKind.u8.wrap ((h : Nat) : Int) = ((h : Nat) : Int) := by rw [IntKind.wrap_u8]; omega
  have hw2 : IntKind.u8.wrap (((h : Nat) : Int) + 1) = (((h + 1 : Nat)) : Int) := by rw [IntKind.wrap_u8]; omega
  have hw3 : IntKind.u8.wrap ((l : Nat) : Int) = ((l : Nat) : Int) := by rw [IntKind.wrap_u8]; omega
  have hw4 : IntKind.u8.wrap (((l : Nat) : Int) + 1) = (((l + 1 : Nat)) : Int) := by rw [IntKind.wrap_u8]; omega
  have hh16 : h < 16 := by omega
  have hl16 : l < 16 := by omega
  have HH := Lib.hid (And.intro hh hl)
  clear hh hl
  have sl : ∀ (k : Nat) (hk : k < 16) (w : World), (Instr.slice 9 (.string ({ data := #[48, 49, 50, 51, 52, 53, 54, 55, 56, 57, 97, 98, 99, 100, 101, 102] } : ByteArray)) (some (.int .u8 ((k : Nat) : Int))) (some (.int .u8 (((k : Nat) : Int) + 1))) none).run Tryd.prog w = .ok (.string (strOf [hexB k])) w := fun k hk w => by
    have h1 := run_slice_string (P := Tryd.prog) w 9 ({ data := #[48, 49, 50, 51, 52, 53, 54, 55, 56, 57, 97, 98, 99, 100, 101, 102] } : ByteArray) .u8 .u8 ((k : Nat) : Int) (((k : Nat) : Int) + 1) Tryd.underlying9 (by omega) (by omega) (by show ((k : Nat) : Int) + 1 ≤ 16; omega)
    rw [h1]
    have e1 : (((k : Nat) : Int) + 1).toNat = k + 1 := by omega
    rw [e1, Int.toNat_natCast]
    have all : ∀ k, k < 16 → ({ data := #[48, 49, 50, 51, 52, 53, 54, 55, 56, 57, 97, 98, 99, 100, 101, 102] } : ByteArray).extract k (k + 1) = strOf [hexB k] := by decide
    rw [all k hk]
  have s1 := sl h hh16
  have s2 := sl l hl16
  clear sl
  have a1 : ∀ w : World, (Op.stringOp .add ({ data := #[92, 120] } : ByteArray) (strOf [hexB h])).run Tryd.prog w = .ok (.string (strOf [92, 120, hexB h])) w := fun w => by
    rw [run_string_add_sum w _ _ (by rw [strOf_size]; show 2 + 1 ≤ 9223372036854775807; decide), show ({ data := #[92, 120] } : ByteArray) = strOf [92, 120] from rfl, strOf_append]; rfl
  have a2 : ∀ w : World, (Op.stringOp .add (strOf [92, 120, hexB h]) (strOf [hexB l])).run Tryd.prog w = .ok (.string (strOf [92, 120, hexB h, hexB l])) w := fun w => by
    rw [run_string_add_sum w _ _ (by rw [strOf_size, strOf_size]; simp), strOf_append]; rfl
  go_enter Tryd.func13, Tryd.ntmps13
  go_wp2
  go_quiet (fail)
  go_wp2
  go_returns
  refine ⟨?_, bdraw (Below.refl _ _) _⟩
  unfold digL
  rw [← HH.out.1, ← HH.out.2]
  rfl
end Go.Proofs.YtlocogccjlecjaaDoor
