import Derived.Test.YtlocogccjlecjaaDoorLeast
namespace Go.Proofs.YtlocogccjlecjaaDoor
open Go.RowKit
/-- byte i of a string -/
def bt (s : ByteArray) (i : Nat) : Nat := (s.data.toList.getD i 0).toNat
theorem bt_lt (s : ByteArray) (i : Nat) : bt s i < 256 := UInt8.toNat_lt _
theorem bt_eq {s : ByteArray} {i : Nat} (h : i < s.size) : bt s i = s[i].toNat := by
  unfold bt
  have h2 : i < s.data.toList.length := h
  rw [List.getD_eq_getElem?_getD, List.getElem?_eq_getElem h2]
  rfl
/-- the parser's cell -/
def Prs (w : World) (p : Nat) (s : ByteArray) (i : Nat) : Prop := Blk w p #[.string s, .int .i64 (i : Int)] 115
set_option maxRecDepth 100000 in
set_option maxHeartbeats 4000000 in
/-- next -/
theorem next_any (s : ByteArray) (p i : Nat) (w : World) (hp : Prs w p s i) :
    Calls Tryd.prog 53 #[.pointer (some ⟨p, 0, none⟩)] w fun e w' => e = .returned (.tuple #[.int .u8 ((if i < s.size then bt s i else 0 : Nat) : Int), .bool (decide (i < s.size))]) ∧ Below w.heap.size w w' := by
  have y0 : w.cell? ⟨p, 0, none⟩ = some (.string s) := Blk.cell hp 0
  have y1 : w.cell? ⟨p, 1, none⟩ = some (.int .i64 (i : Int)) := Blk.cell hp 1
  go_enter Tryd.func53, Tryd.ntmps53
  go_wp2
  go_quiet (fail)
  by_cases hi : i < s.size
  · have hii : (i : Int) < (s.size : Int) := by omega
    go_wp2
    go_quiet (fail)
    go_wp2
    go_returns
    exact ⟨by rw [bt_eq hi]; rfl, bdraw (Below.refl _ _) _⟩
  · have hii : ¬ (i : Int) < (s.size : Int) := by omega
    go_wp2
    go_returns
    exact ⟨rfl, bdraw (Below.refl _ _) _⟩
/-- fail -/
theorem fail_any (pl : Int) (w : World) :
    Calls Tryd.prog 42 #[.int .i64 pl] w fun e w' => e = .panicked [{ v := .iface 111 (.int .i64 pl), recovered := false }] ∧ w' = w := by
  go_enter Tryd.func42, Tryd.ntmps42
  go_wp2
  exact ⟨rfl, rfl, rfl⟩
/-- hex -/
def hexF (b : Nat) : Int := Lib.indexByte [48, 49, 50, 51, 52, 53, 54, 55, 56, 57, 97, 98, 99, 100, 101, 102] b.toUInt8
theorem hex_any (b : Nat) (w : World) :
    Calls Tryd.prog 73 #[.int .u8 (b : Int)] w fun e w' => e = .returned (.int .i64 (hexF b)) ∧ w' = w := by
  go_enter Tryd.func73, Tryd.ntmps73
  go_wp2_with (go_at_call 77; refine (indexByte_any _ _ _).mono ?_; rintro e w' ⟨rfl, rfl⟩)
  go_ret
  exact ⟨rfl, rfl⟩
end Go.Proofs.YtlocogccjlecjaaDoor
