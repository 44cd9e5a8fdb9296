import Derived.Test.YtlocogccjlecjaaDoorEx
import Derived.Tactics2
import Derived.Defers
import Derived.Recover
namespace Go.Proofs.YtlocogccjlecjaaDoor
open Go.RowKit
/-- the parser, whatever it begins at -/
theorem exprs (s : ByteArray) (p : Nat) (hs : s.size ≤ 64) : ∀ (k i : Nat), s.size ≤ i + k → i ≤ s.size → ∀ w, Prs w p s i → Tab w → Calls Tryd.prog 41 #[.pointer (some ⟨p, 0, none⟩)] w fun e w' => GrPost s p (.ex i) w e w' := by
  intro k
  induction k with
  | zero =>
    intro i h1 h2 w hp hT
    refine expr_any s p i w hp h2 hs hT (fun i' h3 h4 w' hp' hT' => ?_)
    exact branch_any s p i' w' hp' h4 hs hT' (fun i2 h5 h6 => absurd h6 (by omega))
  | succ k ih =>
    intro i h1 h2 w hp hT
    refine expr_any s p i w hp h2 hs hT (fun i' h3 h4 w' hp' hT' => ?_)
    refine branch_any s p i' w' hp' h4 hs hT' (fun i2 h5 h6 w2 hp2 hT2 => ?_)
    exact atom_any s p i2 w2 hp2 h6 hs hT2 (fun w3 hp3 hT3 => ih (i2 + 1) (by omega) h6 w3 hp3 hT3)
/-- what parse answers -/
inductive Pars (s : ByteArray) : Option Rx → Nat → Prop
  | long (h : 64 < s.size) : Pars s none 64
  | bad {pl : Nat} (h : s.size ≤ 64) (hg : Gr s (.ex 0) (.bad pl)) : Pars s none pl
  | more {t : Rx} {j : Nat} (h : s.size ≤ 64) (hg : Gr s (.ex 0) (.ok t j)) (hj : j < s.size) : Pars s none j
  | ok {t : Rx} (h : s.size ≤ 64) (hg : Gr s (.ex 0) (.ok t s.size)) : Pars s (some t) 0
set_option maxRecDepth 100000 in
set_option maxHeartbeats 4000000 in
theorem catch_panicking (a b c : Addr) (x y z : Value) (pl : Int) (older : List PanicEntry) (w : World) (ha : w.cell? a = some x) (hb : (w.setCell a .nilIface).cell? b = some y) (hc : ((w.setCell a .nilIface).setCell b (.int .i64 110)).cell? c = some z)
    (fa : w.frozen? a = false) (fb : (w.setCell a .nilIface).frozen? b = false) (fc : ((w.setCell a .nilIface).setCell b (.int .i64 110)).frozen? c = false) :
    CallsD Tryd.prog 40 #[.pointer (some a), .pointer (some b), .pointer (some c)] (.panicking ({ v := .iface 111 (.int .i64 pl), recovered := false } :: older)) w fun e u' w' =>
      e = .returned (.tuple #[]) ∧ u' = .panicking ({ v := .iface 111 (.int .i64 pl), recovered := true } :: older) ∧ w' = ((w.setCell a .nilIface).setCell b (.int .i64 110)).setCell c (.int .i64 pl) := by
  refine callsD_of_wpS Tryd.func40 rfl fun c₀ cs hu => ?_
  apply wpS_seq
  apply wpS_region
  simp [wpOpsS, go_sem, recoverD, hu, Tryd.ntmps40, Exit.thenS]
  have hta : ∀ w : World, (Instr.typeAssert (.iface 111 (.int .i64 pl)) 20 111 true).run Tryd.prog w = .ok (.tuple #[.int .i64 pl, .bool true]) w := fun _ => by kernel_rfl
  simp [Array.replicate_succ]
  refine wpS_of_wp ?_
  go_wp2
  simp [bodyPostS, results, Tryd.results40]
set_option maxRecDepth 100000 in
set_option maxHeartbeats 4000000 in
theorem catch_idle (a b c : Addr) (w : World) :
    CallsD Tryd.prog 40 #[.pointer (some a), .pointer (some b), .pointer (some c)] .returning w fun e u' w' => e = .returned (.tuple #[]) ∧ u' = .returning ∧ w' = w := by
  refine callsD_of_wpS Tryd.func40 rfl fun c₀ cs hu => ?_
  apply wpS_seq
  apply wpS_region
  simp [wpOpsS, go_sem, recoverD, hu, Tryd.ntmps40, Exit.thenS]
  refine wpS_of_wp ?_
  go_wp2
  cases c₀
  simp_all [bodyPostS, results, Tryd.results40]
end Go.Proofs.YtlocogccjlecjaaDoor
