import Derived.Test.YtobklhnechbpaaaPieces
import Derived.Test.YtobklhnechbpaaaStill
import Derived.Lib.LazyBuf
namespace Go.Proofs.Ytobklhnechbpaaa
open Go.RowKit

/-- how many tokens a vocabulary has: none, if it is wrong -/
def szV (bs : List Int) (ps : List (Int × Int)) : Int := match vocF bs ps with | none => 0 | some ls => (ls.length : Int)
theorem vocF_facts {bs : List Int} {ps : List (Int × Int)} {ls : List (List Int)} (h : vocF bs ps = some ls) : fits bs.length ps.length ∧ bs.Nodup ∧ ls.length = 1 + bs.length + ps.length ∧ (∀ l ∈ ls, l.length ≤ 16) ∧ build [] ps (base0 bs) = some ls := by
  unfold vocF at h
  split at h
  · rename_i hf
    split at h
    · rename_i hn
      obtain ⟨h1, h2, _⟩ := build_small _ _ _ _ h (by intro l hl; simp only [base0, List.mem_cons, List.mem_map] at hl; rcases hl with rfl | ⟨b, _, rfl⟩ <;> simp)
      exact ⟨hf, hn, by rw [h1, base0_length], h2, h⟩
    · cases h
  · cases h

set_option maxRecDepth 100000 in
set_option maxHeartbeats 1000000 in
/-- bpe.Check -/
theorem check_any (A A' : Option Addr) (n m c c' : Nat) (bs : List Int) (ps : List (Int × Int)) (w : World) (hv : Voc w A A' n m bs ps) (hwf : Wf bs ps) :
    Calls Try.prog 12 #[.agg #[.slice A n c, .slice A' m c']] w fun e w' => e = .returned (.int .i64 (errV bs ps)) ∧ Below w.heap.size w w' := by
  have h0 : Below w.heap.size w (w.alloc (.cells #[.slice A n c, .slice A' m c'] 25)) := by go_grown
  go_enter Try.func12, Try.ntmps12
  go_wp2_with fail
  refine (pieces_any A A' n m c c' bs ps _ (hv.below h0) hwf).mono ?_
  rintro e w1 ⟨hb, hp⟩
  replace hb := bthen h0 hb
  have eN : ∀ (a : Option Addr) (l c : Nat) (w : World), (binOp .eql 55 (.slice a l c) (.slice none 0 0)).run Try.prog w = .ok (.bool a.isNone) w := fun a l c w => Go.run_eql_slice_nil w 55 22 a l c Try.underlying55
  have he : errV bs ps = if (vocF bs ps).isSome then 0 else 50 := rfl
  cases hq : vocF bs ps with
  | none =>
    rw [hq] at hp he
    have HR := Lib.hid he
    clear he hq
    subst hp
    go_wp2


    go_returns
    exact ⟨by rw [HR.out]; rfl, hb⟩
  | some ls =>
    rw [hq] at hp he
    obtain ⟨g, cap, vals, rfl, _, _⟩ := hp
    have HR := Lib.hid he
    clear he hq
    go_wp2
    go_returns
    exact ⟨by rw [HR.out]; rfl, hb⟩

set_option maxRecDepth 100000 in
set_option maxHeartbeats 1000000 in
/-- bpe.Size -/
theorem size_any (A A' : Option Addr) (n m c c' : Nat) (bs : List Int) (ps : List (Int × Int)) (w : World) (hv : Voc w A A' n m bs ps) (hwf : Wf bs ps) :
    Calls Try.prog 13 #[.agg #[.slice A n c, .slice A' m c']] w fun e w' => e = .returned (.int .i64 (szV bs ps)) ∧ Below w.heap.size w w' := by
  have h0 : Below w.heap.size w (w.alloc (.cells #[.slice A n c, .slice A' m c'] 25)) := by go_grown
  go_enter Try.func13, Try.ntmps13
  go_wp2_with fail
  refine (pieces_any A A' n m c c' bs ps _ (hv.below h0) hwf).mono ?_
  rintro e w1 ⟨hb, hp⟩
  replace hb := bthen h0 hb
  cases hq : vocF bs ps with
  | none =>
    have he : szV bs ps = 0 := by unfold szV; rw [hq]
    rw [hq] at hp
    have HR := Lib.hid he
    clear he hq
    subst hp
    go_wp2
    go_returns
    exact ⟨by rw [HR.out]; rfl, hb⟩
  | some ls =>
    have he : szV bs ps = ls.length := by unfold szV; rw [hq]
    rw [hq] at hp
    obtain ⟨g, cap, vals, rfl, _, _⟩ := hp
    have HR := Lib.hid he
    clear he hq
    go_wp2
    go_returns
    exact ⟨by rw [HR.out]; rfl, hb⟩

set_option maxRecDepth 100000 in
set_option maxHeartbeats 1000000 in
/-- augurref05.Size -/
theorem refSize_any (A A' : Option Addr) (n m c c' : Nat) (bs : List Int) (ps : List (Int × Int)) (w : World) (hv : Voc w A A' n m bs ps) :
    Calls Try.prog 15 #[.agg #[.slice A n c, .slice A' m c']] w fun e w' => e = .returned (.int .i64 (szV bs ps)) ∧ Below w.heap.size w w' := by
  have h0 : Below w.heap.size w (w.alloc (.cells #[.slice A n c, .slice A' m c'] 25)) := by go_grown
  have q0 := Blk.new w #[.slice A n c, .slice A' m c'] 25
  go_enter Try.func15, Try.ntmps15
  go_wp2_with fail
  refine (refCheck_any A A' n m c c' bs ps _ (hv.below h0)).mono ?_
  rintro e w1 ⟨rfl, hb⟩
  replace q0 := q0.below hb
  replace hb := bthen h0 hb
  have x0 : w1.cell? ⟨w.heap.size, 0, none⟩ = some (.slice A n c) := q0.cell _
  have x1 : w1.cell? ⟨w.heap.size, 1, none⟩ = some (.slice A' m c') := q0.cell _
  cases hq : vocF bs ps with
  | none =>
    have he : szV bs ps = 0 := by unfold szV; rw [hq]
    have he2 : errV bs ps = 50 := by unfold errV; rw [hq]; rfl
    rw [he2]
    have HR := Lib.hid he
    clear he hq he2
    go_wp2
    go_returns
    exact ⟨by rw [HR.out]; rfl, hb⟩
  | some ls =>
    obtain ⟨⟨f1, f2, f3⟩, _, hl, _⟩ := vocF_facts hq
    rw [hv.hn, hv.hm] at *
    have he : szV bs ps = 1 + (n : Int) + (m : Int) := by unfold szV; rw [hq]; simp only [hl]; omega
    have he2 : errV bs ps = 0 := by unfold errV; rw [hq]; rfl
    rw [he2]
    have HR := Lib.hid he
    clear he hq he2 hl
    go_wp2
    go_returns
    exact ⟨by rw [HR.out]; rfl, hb⟩
end Go.Proofs.Ytobklhnechbpaaa
