import Derived.Test.YtobklhnechbpaaaPiece
namespace Go.Proofs.Ytobklhnechbpaaa
open Go.RowKit

/-- the error of a token; its bytes -/
def errT (bs : List Int) (ps : List (Int × Int)) (t : Int) : Int := match vocF bs ps with | none => 50 | some ls => if t < 0 ∨ (ls.length : Int) ≤ t then 52 else 0
def bytT (bs : List Int) (ps : List (Int × Int)) (t : Int) : List Int := match vocF bs ps with | none => [] | some ls => if t < 0 ∨ (ls.length : Int) ≤ t then [] else tok ls t.toNat

theorem eN55 : ∀ (a : Option Addr) (l c : Nat) (w : World), (binOp .eql 55 (.slice a l c) (.slice none 0 0)).run Try.prog w = .ok (.bool a.isNone) w := fun a l c w => Go.run_eql_slice_nil w 55 22 a l c Try.underlying55

set_option maxRecDepth 100000 in
set_option maxHeartbeats 2000000 in
/-- bpe.Bytes -/
theorem bytes_any (A A' : Option Addr) (n m c c' : Nat) (bs : List Int) (ps : List (Int × Int)) (t : Int) (w : World) (hv : Voc w A A' n m bs ps) (hwf : Wf bs ps) :
    Calls Try.prog 20 #[.agg #[.slice A n c, .slice A' m c'], .int .i64 t] w fun e w' => ∃ v, e = .returned (.tuple #[v, .int .i64 (errT bs ps t)]) ∧ w'.ownsRow w.heap.size 5 1 v (bytT bs ps t).length (B8 (bytT bs ps t)) ∧ Below w.heap.size w w' := by
  have h0 : Below w.heap.size w (w.alloc (.cells #[.slice A n c, .slice A' m c'] 25)) := by go_grown
  have eN := eN55
  go_enter Try.func20, Try.ntmps20
  go_wp2_with fail
  refine (pieces_any A A' n m c c' bs ps _ (hv.below h0) hwf).mono ?_
  rintro e w1 ⟨hb, hp⟩
  replace hb := bthen h0 hb
  cases hq : vocF bs ps with
  | none =>
    have he : errT bs ps t = 50 := by unfold errT; rw [hq]
    have hy : bytT bs ps t = [] := by unfold bytT; rw [hq]
    rw [hq] at hp
    have HR := Lib.hid he
    have HY := Lib.hid hy
    clear he hq hy
    subst hp
    go_wp2
    go_returns
    refine ⟨.slice none 0 0, by rw [HR.out]; rfl, ?_, hb⟩
    rw [HY.out]
    exact World.ownsRow_nil _ _ _ _
  | some ls =>
    have hT := toks_of hq
    have h1 := hT.len
    have h2 := hT.n64
    obtain ⟨hlb, hnn⟩ : ls.length ≤ 64 ∧ 0 < ls.length := by omega
    have he : errT bs ps t = if t < 0 ∨ (ls.length : Int) ≤ t then 52 else 0 := by unfold errT; rw [hq]
    have hy : bytT bs ps t = if t < 0 ∨ (ls.length : Int) ≤ t then [] else tok ls t.toNat := by unfold bytT; rw [hq]
    rw [hq] at hp
    obtain ⟨g, cap, vals, rfl, ho, hp⟩ := hp
    have hp0 := hp
    clear hq
    by_cases hbad : t < 0 ∨ (ls.length : Int) ≤ t
    · rw [if_pos hbad] at he hy
      have HR := Lib.hid he
      have HY := Lib.hid hy
      clear he hy
      by_cases z : t < 0
      · clear hbad
        go_wp2
        go_returns
        refine ⟨.slice none 0 0, by rw [HR.out]; rfl, ?_, hb⟩
        rw [HY.out]
        exact World.ownsRow_nil _ _ _ _
      · have z2 : (ls.length : Int) ≤ t := by omega
        clear hbad
        go_wp2
        go_returns
        refine ⟨.slice none 0 0, by rw [HR.out]; rfl, ?_, hb⟩
        rw [HY.out]
        exact World.ownsRow_nil _ _ _ _
    · rw [if_neg hbad] at he hy
      obtain ⟨k, rfl⟩ : ∃ k : Nat, t = (k : Int) := ⟨t.toNat, by omega⟩
      have hk : k < ls.length := by omega
      rw [Int.toNat_natCast] at hy
      have HR := Lib.hid he
      have HY := Lib.hid hy
      clear he hy hbad
      obtain ⟨v, hv1, ov⟩ := hp.get k hk
      have c3 := own_cell ho k _ hv1
      have ea2 : (⟨g, 0, none⟩ : Addr).add k = ⟨g, k, none⟩ := by simpa using addr_add g 0 k
      have ov' : w1.ownsRow w.heap.size 5 1 v (tok ls k).length (B8 (tok ls k)) := own_base ov (by simp)
      obtain ⟨va, vc, rfl, _, _⟩ := own_rd ov'
      clear ov
      generalize tok ls k = l at *
      go_wp2
      go_returns
      refine ⟨_, by rw [HR.out]; rfl, ?_, hb⟩
      rw [HY.out]
      exact ov'

theorem szV_none {bs : List Int} {ps : List (Int × Int)} (h : vocF bs ps = none) : szV bs ps = 0 := by unfold szV; rw [h]
theorem szV_some {bs : List Int} {ps : List (Int × Int)} {ls : List (List Int)} (h : vocF bs ps = some ls) : szV bs ps = ls.length := by unfold szV; rw [h]
set_option maxRecDepth 100000 in
set_option maxHeartbeats 2000000 in
/-- augurref05.Bytes -/
theorem refBytes_any (A A' : Option Addr) (n m c c' : Nat) (bs : List Int) (ps : List (Int × Int)) (t : Int) (w : World) (hv : Voc w A A' n m bs ps) :
    Calls Try.prog 18 #[.agg #[.slice A n c, .slice A' m c'], .int .i64 t] w fun e w' => ∃ v, e = .returned (.tuple #[v, .int .i64 (errT bs ps t)]) ∧ w'.ownsRow w.heap.size 5 1 v (bytT bs ps t).length (B8 (bytT bs ps t)) ∧ Below w.heap.size w w' := by
  have h0 : Below w.heap.size w (w.alloc (.cells #[.slice A n c, .slice A' m c'] 25)) := by go_grown
  have q0 := Blk.new w #[.slice A n c, .slice A' m c'] 25
  go_enter Try.func18, Try.ntmps18
  go_wp2_with fail
  refine (refSize_any A A' n m c c' bs ps _ (hv.below h0)).mono ?_
  rintro e w1 ⟨rfl, hb⟩
  replace q0 := q0.below hb
  replace hb := bthen h0 hb
  have x0 : w1.cell? ⟨w.heap.size, 0, none⟩ = some (.slice A n c) := q0.cell _
  have x1 : w1.cell? ⟨w.heap.size, 1, none⟩ = some (.slice A' m c') := q0.cell _
  cases hq : vocF bs ps with
  | none =>
    have he : errT bs ps t = 50 := by unfold errT; rw [hq]
    have hy : bytT bs ps t = [] := by unfold bytT; rw [hq]
    rw [szV_none hq]
    have HR := Lib.hid he
    have HY := Lib.hid hy
    clear he hq hy
    go_wp2
    go_returns
    refine ⟨.slice none 0 0, by rw [HR.out]; rfl, ?_, hb⟩
    rw [HY.out]
    exact World.ownsRow_nil _ _ _ _
  | some ls =>
    have hT := toks_of hq
    have h1 := hT.len
    have h2 := hT.n64
    obtain ⟨hlb, hnn⟩ : ls.length ≤ 64 ∧ 0 < ls.length := by omega
    have he : errT bs ps t = if t < 0 ∨ (ls.length : Int) ≤ t then 52 else 0 := by unfold errT; rw [hq]
    have hy : bytT bs ps t = if t < 0 ∨ (ls.length : Int) ≤ t then [] else tok ls t.toNat := by unfold bytT; rw [hq]
    rw [szV_some hq]
    clear hq h1 h2
    by_cases hbad : t < 0 ∨ (ls.length : Int) ≤ t
    · rw [if_pos hbad] at he hy
      have HR := Lib.hid he
      have HY := Lib.hid hy
      clear he hy
      by_cases z : t < 0
      · clear hbad
        go_wp2
        go_returns
        refine ⟨.slice none 0 0, by rw [HR.out]; rfl, ?_, hb⟩
        rw [HY.out]
        exact World.ownsRow_nil _ _ _ _
      · have z2 : (ls.length : Int) ≤ t := by omega
        clear hbad
        go_wp2
        go_returns
        refine ⟨.slice none 0 0, by rw [HR.out]; rfl, ?_, hb⟩
        rw [HY.out]
        exact World.ownsRow_nil _ _ _ _
    · rw [if_neg hbad] at he hy
      obtain ⟨k, rfl⟩ : ∃ k : Nat, t = (k : Int) := ⟨t.toNat, by omega⟩
      have hk : k < ls.length := by omega
      rw [Int.toNat_natCast] at hy
      have HR := Lib.hid he
      have HY := Lib.hid hy
      clear he hy hbad
      go_wp2_with fail
      refine (piece_any bs ps ls hT k hk A A' n m c c' _ (hv.below hb)).mono ?_
      rintro e w2 ⟨v, rfl, ov, hb2⟩
      have ov' := own_base (base' := w.heap.size) ov hb.size
      obtain ⟨va, vc, rfl, _, _⟩ := own_rd ov'
      clear ov
      replace hb := bthen hb hb2
      generalize tok ls k = l at *
      go_wp2
      go_returns
      refine ⟨_, by rw [HR.out]; rfl, ?_, hb⟩
      rw [HY.out]
      exact ov'
end Go.Proofs.Ytobklhnechbpaaa
