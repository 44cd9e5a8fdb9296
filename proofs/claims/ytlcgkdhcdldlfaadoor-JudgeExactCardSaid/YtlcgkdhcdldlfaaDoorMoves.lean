import Derived.Test.YtlcgkdhcdldlfaaDoorRTake
namespace Go.Proofs.YtlcgkdhcdldlfaaDoor
open Go.RowKit Go.Maps

def PR (ps : List (Int × Int)) : List Value := ps.flatMap fun p => [.int .i64 p.1, .int .i64 p.2]

/-- the pairs' cells -/
theorem PR_length (ps : List (Int × Int)) : (PR ps).length = 2 * ps.length := by
  induction ps with
  | nil => rfl
  | cons p r ih => simp only [PR, List.flatMap_cons, List.length_append, List.length_cons, List.length_nil] at *; omega

theorem PR_get (ps : List (Int × Int)) : ∀ (i : Nat) (h : i < ps.length), (PR ps)[2 * i]? = some (.int .i64 ps[i].1) ∧ (PR ps)[2 * i + 1]? = some (.int .i64 ps[i].2) := by
  induction ps with
  | nil => intro i h; simp at h
  | cons p r ih =>
    intro i h
    cases i with
    | zero => simp [PR]
    | succ i =>
      have := ih i (by simpa using h)
      have e : PR (p :: r) = Value.int .i64 p.1 :: Value.int .i64 p.2 :: PR r := by simp [PR]
      rw [e, show 2 * (i + 1) = 2 * i + 1 + 1 by omega, show 2 * i + 1 + 1 + 1 = 2 * i + 1 + 1 + 1 from rfl]
      simpa using this

theorem Rd.pr {w : World} {A : Option Addr} {ps : List (Int × Int)} (h : Rd w A (PR ps)) (i : Nat) (hi : i < ps.length) :
    ∃ b o, A = some ⟨b, o, none⟩ ∧ w.cell? ⟨b, o + i * 2, none⟩ = some (.int .i64 ps[i].1) ∧ w.cell? ⟨b, o + i * 2 + 1, none⟩ = some (.int .i64 ps[i].2) := by
  obtain ⟨g0, g1⟩ := PR_get ps i hi
  have hl := PR_length ps
  rcases h with e | ⟨b, o, e, hc⟩
  · rw [e] at g0
    simp at g0
  · have c0 := hc (2 * i) (by omega)
    have c1 := hc (2 * i + 1) (by omega)
    rw [g0, Nat.mul_comm] at c0
    rw [g1, ← Nat.add_assoc, Nat.mul_comm] at c1
    exact ⟨b, o, e, c0, c1⟩

theorem PR_snoc (xs : List (Int × Int)) (x : Int × Int) : PR xs ++ [Value.int .i64 x.1, Value.int .i64 x.2] = PR (xs ++ [x]) := by simp [PR]


theorem info47 : (Tryd.prog.info? 47).map (fun i => (i.zero, i.size, i.bytes)) = some (some (.agg #[.int .i64 0, .int .i64 0]), 2, 16) := by kernel_rfl
theorem law3 : Keyed Tryd.prog 3 := int_keyed Tryd.underlying3
def WfI (l : List Int) : Prop := ∀ x ∈ l, (Lit.int .i64 x).wf = true
theorem WfI.at {l : List Int} (h : WfI l) {k : Nat} (hk : k < l.length) : (Lit.int .i64 (wv l k)).wf = true := by
  rw [← wv_get l k hk]
  exact h _ (List.getElem_mem _)
/-- a map that counts: 1 at these, 0 elsewhere -/
def CntIs (D : DataW Unit) (vals : List Int) : Prop := IsMap D ∧ ∀ x, D.atKey (.int .i64 x) (.lit (.int .i64 0)) = .lit (.int .i64 (if x ∈ vals then 1 else 0))
theorem CntIs.nil : CntIs (.map []) [] := ⟨isMap_empty, fun x => by simp [DataW.atKey]⟩
theorem CntIs.put {D : DataW Unit} {vals : List Int} (h : CntIs D vals) {x : Int} (hw : (Lit.int .i64 x).wf = true) : CntIs (D.put (.int .i64 x) (.lit (.int .i64 1))) (vals ++ [x]) := by
  refine ⟨h.1.put _ _, fun y => ?_⟩
  by_cases he : y = x
  · subst he
    rw [atKey_put_same h.1 (law3.key (keyOf_int_mk Tryd.underlying3 hw))]
    simp
  · rw [atKey_put_other (by simpa using he), h.2 y]
    simp [he]

/-- may the i-th be moved? -/
def mayAt (way slots to : List Int) (i : Nat) : Prop := 0 ≤ wv way i ∧ wv way i < (slots.length : Int) ∧ wv to i ∉ to.take i
instance (way slots to : List Int) (i : Nat) : Decidable (mayAt way slots to i) := by unfold mayAt; infer_instance
def okP (way slots to : List Int) : Prop := 0 < way.length ∧ way.length ≤ to.length ∧ ∀ i, i < way.length → mayAt way slots to i
instance (way slots to : List Int) : Decidable (okP way slots to) := by unfold okP; infer_instance
/-- the i-th move, if there is one -/
def mvAt (way slots to : List Int) (i : Nat) : List (Int × Int) := if wv slots (wv way i).toNat = wv to i then [] else [(wv slots (wv way i).toNat, wv to i)]
def mvs (way slots to : List Int) (k : Nat) : List (Int × Int) := (List.range k).flatMap (mvAt way slots to)
theorem mvs_succ (way slots to : List Int) (k : Nat) : mvs way slots to (k + 1) = mvs way slots to k ++ mvAt way slots to k := by simp [mvs, List.range_succ]
theorem mvs_len (way slots to : List Int) (k : Nat) : (mvs way slots to k).length ≤ k := by
  induction k with
  | zero => simp [mvs]
  | succ k ih =>
    rw [mvs_succ, List.length_append]
    have : (mvAt way slots to k).length ≤ 1 := by unfold mvAt; split <;> simp
    omega
def planL (way slots to : List Int) : List (Int × Int) := if okP way slots to then mvs way slots to way.length else []
def planE (way slots to : List Int) : Int := if okP way slots to then 0 else 160
theorem plan_no {way slots to : List Int} (h : ¬ okP way slots to) : planL way slots to = [] ∧ planE way slots to = 160 := ⟨if_neg h, if_neg h⟩
theorem plan_ok {way slots to : List Int} (h : okP way slots to) : planL way slots to = mvs way slots to way.length ∧ planE way slots to = 0 := ⟨if_pos h, if_pos h⟩
theorem plan_bad {way slots to : List Int} {i : Nat} (hi : i < way.length) (h : ¬ mayAt way slots to i) : planL way slots to = [] ∧ planE way slots to = 160 := plan_no fun k => h (k.2.2 i hi)
/-- what Plan hands back -/
def PlanOut (w : World) (way slots to : List Int) (e : Ending) (w' : World) : Prop :=
  ∃ A c, e = .returned (.tuple #[.slice A (planL way slots to).length c, .int .i64 (planE way slots to)]) ∧ w'.ownsRow w.heap.size 47 2 (.slice A (planL way slots to).length c) (planL way slots to).length (PR (planL way slots to)) ∧ Below w.heap.size w w'
theorem PlanOut.bad {w w' : World} {way slots to : List Int} (h : planL way slots to = [] ∧ planE way slots to = 160) (hb : Below w.heap.size w w') : PlanOut w way slots to (.returned (.tuple #[.slice none 0 0, .int .i64 160])) w' := by
  refine ⟨none, 0, by rw [h.1, h.2]; rfl, ?_, hb⟩
  rw [h.1]
  exact World.ownsRow_nil _ _ _ _
end Go.Proofs.YtlcgkdhcdldlfaaDoor
