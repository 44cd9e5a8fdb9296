import Derived.Test.YtcambbnmeiolgaaFedW
namespace Go.Proofs.Ytcambbnmeiolgaa
open Go.RowKit
def smallB : List Int := [97, 98, 99, 100, 226, 130, 172]
set_option maxRecDepth 100000 in
set_option maxHeartbeats 1000000 in
/-- small -/
theorem small_any (w : World) : Calls Try.prog 30 #[] w fun e w' => ∃ A c, e = .returned (.agg #[.slice A 7 c, .slice none 0 0]) ∧ Voc w' A none 7 0 smallB [] ∧ Below w.heap.size w w' := by
  go_enter Try.func30, Try.ntmps30
  go_wp2
  go_returns
  have hB := Blk.new (w.alloc (.cells #[.slice (some ⟨w.heap.size + 1, 0, none⟩) 7 7, .slice none 0 0] 37)) #[.int .u8 97, .int .u8 98, .int .u8 99, .int .u8 100, .int .u8 226, .int .u8 130, .int .u8 172] 5
  rw [World.size_alloc] at hB
  exact ⟨_, _, rfl, ⟨rfl, rfl, by omega, by omega, blk_rd hB rfl, .inl rfl⟩, by go_grown⟩
end Go.Proofs.Ytcambbnmeiolgaa
