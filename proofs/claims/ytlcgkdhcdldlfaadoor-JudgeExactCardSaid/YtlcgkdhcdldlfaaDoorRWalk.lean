import Derived.Test.YtlcgkdhcdldlfaaDoorWay
import Derived.Test.YtlcgkdhcdldlfaaDoorRChk
namespace Go.Proofs.YtlcgkdhcdldlfaaDoor
open Go.RowKit

/-- a child's place; -1: there is none -/
def kidI (t : List Nd) (a : Nat) (x : Int) : Int := match kid t a x with | none => -1 | some k => (k : Int)

/-- what Walk hands back -/
def WalkOut (w : World) (t : List Nd) (ch : List Int) (e : Ending) (w' : World) : Prop :=
  ∃ v, e = .returned (.tuple #[v, .int .i64 (walkN t ch), .int .i64 (walkE t ch)]) ∧ w'.ownsRow w.heap.size 3 1 v (walkL t ch).length (I64 (walkL t ch)) ∧ Below w.heap.size w w'
theorem walk_bad {t : List Nd} {ch : List Int} (h : ¬ isT t) : walkL t ch = [] ∧ walkN t ch = 0 ∧ walkE t ch = 140 := by
  have : ¬ okW t ch := fun k => h k.1
  exact ⟨if_neg this, if_neg this, if_neg h⟩
theorem walk_long {t : List Nd} {ch : List Int} (h : isT t) (h' : ch.length ≠ t.length) : walkL t ch = [] ∧ walkN t ch = 0 ∧ walkE t ch = 160 := by
  have : ¬ okW t ch := fun k => h' k.2
  refine ⟨if_neg this, if_neg this, ?_⟩
  unfold walkE
  rw [if_pos h, if_neg h']
theorem walk_ok {t : List Nd} {ch : List Int} {pre : List Nat} {a f : Nat} (h : isT t) (h' : ch.length = t.length) (g : Going t ch pre a f) (k : kid t a (chv ch a) = none) : walkL t ch = nats (pre ++ [a]) ∧ walkN t ch = chv ch a ∧ walkE t ch = 0 := by
  have : okW t ch := ⟨h, h'⟩
  refine ⟨?_, ?_, ?_⟩
  · unfold walkL
    rw [if_pos this, g.stop k]
  · unfold walkN
    rw [if_pos this, g.stop k]
    simp [lastW]
  · unfold walkE
    rw [if_pos h, if_pos h']
theorem nats_snoc (l : List Nat) (a : Nat) : nats (l ++ [a]) = nats l ++ [(a : Int)] := by simp [nats]

end Go.Proofs.YtlcgkdhcdldlfaaDoor
