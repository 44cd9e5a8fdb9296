import Derived.Test.YtcambbnmeiolgaaSml
import Derived.Test.YtcambbnmeiolgaaNewW
import Derived.Test.YtcambbnmeiolgaaFedB
namespace Go.Proofs.Ytcambbnmeiolgaa
open Go.RowKit
theorem small_wf : Wf smallB [] := ⟨by decide, by decide⟩
def bcS : ByteArray := ⟨#[98, 99]⟩
theorem newE_small : newE smallB [] [bcS] = 0 := by kernel_rfl
theorem fed1 : feedU ([bcS].map lst) (toks smallB []) ([], [], false) [1, 2] = ([98], [97], false) := by kernel_rfl
theorem fed2 : feedU ([bcS].map lst) (toks smallB []) ([98], [], false) [2] = ([98], [98], false) := by kernel_rfl
theorem ok1 : okTs (toks smallB []).length [1, 2] := by
  have h : (toks smallB []).length = 8 := by kernel_rfl
  rw [h]; intro x hx; simp at hx; omega
theorem ok2 : okTs (toks smallB []).length [2] := by
  have h : (toks smallB []).length = 8 := by kernel_rfl
  rw [h]; intro x hx; simp at hx; omega

set_option maxRecDepth 100000 in
set_option maxHeartbeats 4000000 in
/-- fixed -/
theorem fixed_any (w : World) : Calls Try.prog 12 #[] w fun e w' => e = .returned (.bool true) ∧ Below w.heap.size w w' := by
  go_enter Try.func12, Try.ntmps12
  go_wp2_with fail
  refine (small_any _).mono ?_
  rintro e w1 ⟨A, c, rfl, hv, hb⟩
  go_wp2_with fail
  have k0 := Blk.new w1 #[.string bcS] 9
  have h1 : Below w1.heap.size w1 (w1.alloc (.cells #[.string bcS] 9)) := by go_grown
  refine (new_any A none (some ⟨w1.heap.size, 0, none⟩) 7 0 1 c 0 1 smallB [] [bcS] _ (hv.below h1) small_wf rfl (blk_rd k0 rfl) (by omega)).mono ?_
  rintro e w2 ⟨hb2, (⟨h, _⟩ | ⟨_, p, hp, rfl, hs⟩)⟩
  · exact absurd newE_small h
  replace hb2 := bthen (bthen hb h1) hb2
  have hpl := hs.lt
  have hwp : w.heap.size ≤ p := Nat.le_trans (Nat.le_trans hb.size h1.size) hp
  clear hb h1 k0 hv hp
  go_wp2_with fail
  have k3 := Blk.new w2 #[.int .i64 1, .int .i64 2] 3
  have h3 : Below w2.heap.size w2 (w2.alloc (.cells #[.int .i64 1, .int .i64 2] 3)) := by go_grown
  refine (feed_any (some ⟨w2.heap.size, 0, none⟩) 2 2 [1, 2] _ p (toks smallB []) [bcS] [] false (hs.below h3) (by simp) rfl (by omega) (blk_rd k3 rfl) (fun b o h _ => by cases h; omega) ok1).mono ?_
  rintro e w3 ⟨u, rfl, ou, hs3, hg3⟩
  rw [fed1] at ou hs3
  have hb3 : Below w.heap.size w w3 := (bthen hb2 h3).grown hg3 (bthen hb2 h3).size (fun k e => by cases e; exact hwp)
  have hlo : ∀ q, u.ownBlock = some q → q ≠ p := fun q hq => by have := (own_lt ou q hq).1; rw [World.size_alloc] at this; omega
  clear hs hb2 k3 h3 hg3 hpl
  obtain ⟨ua, uc, rfl, _, _⟩ := own_rd ou
  go_wp2_with fail
  have k4 := Blk.new w3 #[.int .i64 2] 3
  have hpl := hs3.lt
  have h4 : Below w3.heap.size w3 (w3.alloc (.cells #[.int .i64 2] 3)) := by go_grown
  refine (feed_any (some ⟨w3.heap.size, 0, none⟩) 1 1 [2] _ p (toks smallB []) [bcS] [98] false (hs3.below h4) (by simp) rfl (by omega) (blk_rd k4 rfl) (fun b o h _ => by cases h; omega) ok2).mono ?_
  rintro e w4 ⟨u2, rfl, ou2, hs4, hg4⟩
  rw [fed2] at ou2 hs4
  have hb4 : Below w.heap.size w w4 := (bthen hb3 h4).grown hg4 (bthen hb3 h4).size (fun k e => by cases e; exact hwp)
  have ou' := (own_below ou h4).kept hg4 (by
    cases hq : (Value.slice ua 1 uc).ownBlock with
    | none => exact .inl rfl
    | some q => exact .inr (fun h => hlo q hq (by cases h; rfl)))
  obtain ⟨ub, ud, rfl, _, _⟩ := own_rd ou2
  have c1 := conv_run w4 ua 1 uc [97] rfl (own_rdv ou')
  have c2 := conv_run w4 ub 1 ud [98] rfl (own_rdv ou2)
  clear ou ou' ou2 hs3 hb3 h4 k4 hg4 hlo
  go_wp2_with fail
  trace_state
  refine (over_any w4 p _ _ _ _ hs4).mono ?_
  rintro e w5 ⟨rfl, rfl⟩
  go_wp2
  go_returns
  exact ⟨rfl, hb4⟩
end Go.Proofs.Ytcambbnmeiolgaa
