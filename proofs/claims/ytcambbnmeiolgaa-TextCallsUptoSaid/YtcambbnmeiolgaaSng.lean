import Derived.Test.YtcambbnmeiolgaaMem
import Derived.Test.YtcambbnmeiolgaaVoc
import Derived.Test.YtcambbnmeiolgaaShelf
import Derived.Laws.RangeAny
namespace Go.Proofs.Ytcambbnmeiolgaa
open Go.RowKit

/-- a string's bytes -/
abbrev lst (s : ByteArray) : List UInt8 := s.data.toList
theorem lst_length (s : ByteArray) : (lst s).length = s.size := Array.length_toList
theorem lst_append (a b : ByteArray) : lst (a ++ b) = lst a ++ lst b := by
  show (a ++ b).data.toList = _
  rw [ByteArray.data_append, Array.toList_append]
theorem lst_mk (l : List UInt8) : lst ⟨l.toArray⟩ = l := rfl
theorem width_pos (s : ByteArray) (pos : Nat) (h : pos < s.size) : 1 ≤ (Utf8.decode s pos).2 := by
  by_cases ha : (s[pos]'h).toNat < 128
  · rw [decode_ascii s pos h ha]
    exact Nat.le_refl _
  · exact (decode_high s pos h (by omega)).2
/-- one rune, whole? -/
def oneB (s : ByteArray) : Bool := decide (0 < s.size ∧ s.size ≤ (Utf8.decode s 0).2)

set_option maxRecDepth 100000 in
set_option maxHeartbeats 400000 in
/-- single -/
theorem single_any (s : ByteArray) (w : World) (hs : s.size ≤ 1000) :
    Calls Try.prog 71 #[.string s] w fun e w' => e = .returned (.bool (oneB s)) ∧ Below w.heap.size w w' := by
  have hI : ∀ pos, Below w.heap.size w (w.iter s pos) := fun pos => (Below.refl _ _).alloc (Nat.le_refl _) _
  have HI := Lib.hid hI
  clear hI
  go_enter Try.func71, Try.ntmps71
  go_wp2
  go_loopw [3] (fun n wr => ∃ (pos k : Nat), wr = w.iter s pos ∧ n = .int .i64 (k : Int) ∧ k ≤ pos ∧ ((k = 0 ∧ pos = 0) ∨ (k = 1 ∧ 0 < s.size ∧ pos = (Utf8.decode s 0).2) ∨ (2 ≤ k ∧ (Utf8.decode s 0).2 < s.size))) (fun _ wr => s.size - wr.iterPos w.heap.size)
  case atStart => exact ⟨0, 0, rfl, rfl, by omega, .inl ⟨rfl, rfl⟩⟩
  case round =>
    obtain ⟨pos, k, rfl, rfl, hk, hc⟩ := hrel
    by_cases hp : pos < s.size
    · have hnx : ∀ ty, (Instr.next (.pointer (some ⟨w.heap.size, 0, none⟩)) true ty).run Try.prog (w.iter s pos) = _ := fun ty => run_next_any w s pos ty hp
      have hwd := width_pos s pos hp
      have HC := Lib.hid hc
      have k1 : (k : Int) ≤ 1000 := by omega
      clear hc
      go_wp2
      go_roundw
      case rel =>
        refine ⟨pos + (Utf8.decode s pos).2, k + 1, rfl, by go_num, by omega, ?_⟩
        rcases HC.out with ⟨rfl, rfl⟩ | ⟨rfl, h0, rfl⟩ | ⟨h2, h3⟩
        · exact .inr (.inl ⟨rfl, by omega, by rw [Nat.zero_add]⟩)
        · exact .inr (.inr ⟨by omega, hp⟩)
        · exact .inr (.inr ⟨by omega, h3⟩)
      case measure => simp; omega
    · have hnx : ∀ ty, (Instr.next (.pointer (some ⟨w.heap.size, 0, none⟩)) true ty).run Try.prog (w.iter s pos) = _ := fun ty => run_next_end w s pos ty hp
      have HB := Lib.hid (show oneB s = ((k : Int) == 1) by
        unfold oneB
        rcases hc with ⟨rfl, rfl⟩ | ⟨rfl, h0, rfl⟩ | ⟨h2, h3⟩
        · rw [decide_eq_false (by omega)]; rfl
        · rw [decide_eq_true ⟨h0, by omega⟩]; rfl
        · rw [decide_eq_false (by omega)]; symm; rw [beq_eq_false_iff_ne]; omega)
      clear hc
      go_wp2
      go_returns
      exact ⟨by rw [HB.out]; rfl, HI.out _⟩
end Go.Proofs.Ytcambbnmeiolgaa
