import Derived.Test.YtlocogccjlecjaaDoorPar
import Derived.Deep.DeepCutAuto
namespace Go.Proofs.YtlocogccjlecjaaDoor
open Go.RowKit
/-- what parse answers, in memory -/
def ParPost (s : ByteArray) (w : World) (e : Ending) (w' : World) : Prop :=
  Below w.heap.size w w' ∧ ∃ r pl, Pars s r pl ∧ match r with
  | none => e = .returned (.tuple #[.nilIface, .int .i64 110, .int .i64 ((pl : Nat) : Int)])
  | some t => ∃ v, e = .returned (.tuple #[v, .int .i64 0, .int .i64 0]) ∧ Tr (fun b => w.heap.size ≤ b) w' v t
set_option maxRecDepth 100000 in
set_option maxHeartbeats 4000000 in
/-- parse -/
theorem parse_any (s : ByteArray) (w : World) (hT : Tab w) :
    Calls Tryd.prog 27 #[.string s] w fun e w' => ParPost s w e w' := by
  have hmf : ∀ (fn : Fn) (first cap : Array Value) (w : World), (Instr.makeFunc fn first cap).run Tryd.prog w = .ok (.func fn first cap) w := fun _ _ _ _ => rfl
  go_enter_defers Tryd.func27, Tryd.ntmps27
  by_cases hl : 64 < s.size
  · have hli : (64 : Int) < (s.size : Int) := by omega
    have hfin : Below w.heap.size w (((w.alloc (.cells #[.nilIface] 64)).alloc (.cells #[.int .i64 110] 24)).alloc (.cells #[.int .i64 64] 3)) := by go_grown
    have HF := Lib.hid hfin
    clear hfin
    go_wp2
    simp [bodyPostD, Leaves, results, Tryd.results27, go_sem]
    exact ⟨HF.out, none, 64, .long hl, rfl⟩
  · have hli : ¬ (64 : Int) < (s.size : Int) := by omega
    have hb4 : Below w.heap.size w ((((w.alloc (.cells #[.nilIface] 64)).alloc (.cells #[.int .i64 0] 24)).alloc (.cells #[.int .i64 0] 3)).alloc (.cells #[.string s, .int .i64 0] 115)) := by go_grown
    have q2 := (((Blk.new w #[.nilIface] 64).alloc (.cells #[.int .i64 0] 24)).alloc (.cells #[.int .i64 0] 3)).alloc (.cells #[.string s, .int .i64 0] 115)
    have q3 := ((Blk.new (w.alloc (.cells #[.nilIface] 64)) #[.int .i64 0] 24).alloc (.cells #[.int .i64 0] 3)).alloc (.cells #[.string s, .int .i64 0] 115)
    have q4 := (Blk.new ((w.alloc (.cells #[.nilIface] 64)).alloc (.cells #[.int .i64 0] 24)) #[.int .i64 0] 3).alloc (.cells #[.string s, .int .i64 0] 115)
    have q5 : Prs ((((w.alloc (.cells #[.nilIface] 64)).alloc (.cells #[.int .i64 0] 24)).alloc (.cells #[.int .i64 0] 3)).alloc (.cells #[.string s, .int .i64 0] 115)) (w.heap.size + 1 + 1 + 1) s 0 := by
      have := Blk.new (((w.alloc (.cells #[.nilIface] 64)).alloc (.cells #[.int .i64 0] 24)).alloc (.cells #[.int .i64 0] 3)) #[.string s, .int .i64 0] 115
      simp only [World.size_alloc] at this
      exact this
    simp only [World.size_alloc] at q3 q4
    have hT4 := hT.below hb4
    go_wp2_with fail
    generalize ((((w.alloc (.cells #[.nilIface] 64)).alloc (.cells #[.int .i64 0] 24)).alloc (.cells #[.int .i64 0] 3)).alloc (.cells #[.string s, .int .i64 0] 115)) = w4 at *
    have hw4 := q5.at
    have hw4l : w.heap.size + 1 + 1 + 1 < w4.heap.size := Blk.lt q5
    clear hw4
    refine (exprs s _ (by omega) s.size 0 (by omega) (by omega) w4 q5 hT4).mono ?_
    rintro e w5 ⟨hk, r, hg, hm⟩
    have HG := Lib.hid hg
    clear hg
    have q2' := q2.kp hk (by omega)
    have q3' := q3.kp hk (by omega)
    have q4' := q4.kp hk (by omega)
    have hb5 : Below w.heap.size w w5 := hb4.trans (hk.toBelow (by omega) (fun z hz e => by omega))
    clear q2 q3 q4 q5 hb4 hT4
    cases r with
    | bad pl =>
      simp only at hm
      subst hm
      unfold Fault
      go_wp2
      refine leaves_cons (f := 40) (args := #[.pointer (some ⟨w.heap.size, 0, none⟩), .pointer (some ⟨w.heap.size + 1, 0, none⟩), .pointer (some ⟨w.heap.size + 1 + 1, 0, none⟩)]) (by simp) (by simp [go_sem]) ?_
      have k3 := q3'.other ⟨w.heap.size, 0, none⟩ .nilIface (show w.heap.size + 1 ≠ w.heap.size by omega)
      have k4 := (q4'.other ⟨w.heap.size, 0, none⟩ .nilIface (show w.heap.size + 1 + 1 ≠ w.heap.size by omega)).other ⟨w.heap.size + 1, 0, none⟩ (.int .i64 110) (show w.heap.size + 1 + 1 ≠ w.heap.size + 1 by omega)
      refine (catch_panicking _ _ _ .nilIface (.int .i64 0) (.int .i64 0) _ _ _ (q2'.cell 0) (k3.cell 0) (k4.cell 0) (q2'.frozen 0) (k3.frozen 0) (k4.frozen 0)).mono ?_
      rintro e u' w'' ⟨rfl, rfl, rfl⟩
      have j2 := ((q2'.set 0 .nilIface).other ⟨w.heap.size + 1, 0, none⟩ (.int .i64 110) (show w.heap.size ≠ w.heap.size + 1 by omega)).other ⟨w.heap.size + 1 + 1, 0, none⟩ (.int .i64 (pl : Nat)) (show w.heap.size ≠ w.heap.size + 1 + 1 by omega)
      have j3 := (k3.set 0 (.int .i64 110)).other ⟨w.heap.size + 1 + 1, 0, none⟩ (.int .i64 (pl : Nat)) (show w.heap.size + 1 ≠ w.heap.size + 1 + 1 by omega)
      have j4 := k4.set 0 (.int .i64 (pl : Nat))
      have hbf := ((hb5.setCell (p := ⟨w.heap.size, 0, none⟩) (Nat.le_refl _) .nilIface).setCell (p := ⟨w.heap.size + 1, 0, none⟩) (show w.heap.size ≤ w.heap.size + 1 by omega) (.int .i64 110)).setCell (p := ⟨w.heap.size + 1 + 1, 0, none⟩) (show w.heap.size ≤ w.heap.size + 1 + 1 by omega) (.int .i64 (pl : Nat))
      generalize ((w5.setCell ⟨w.heap.size, 0, none⟩ .nilIface).setCell ⟨w.heap.size + 1, 0, none⟩ (.int .i64 110)).setCell ⟨w.heap.size + 1 + 1, 0, none⟩ (.int .i64 (pl : Nat)) = w9 at *
      have z2 : w9.cell? ⟨w.heap.size, 0, none⟩ = some .nilIface := j2.cell 0
      have z3 : w9.cell? ⟨w.heap.size + 1, 0, none⟩ = some (.int .i64 110) := j3.cell 0
      have z4 : w9.cell? ⟨w.heap.size + 1 + 1, 0, none⟩ = some (.int .i64 (pl : Nat)) := j4.cell 0
      simp [Leaves, settle, results, Tryd.results27, go_sem, z2, z3, z4]
      exact ⟨hbf, none, pl, .bad (by omega) HG.out, rfl⟩
    | ok t j =>
      obtain ⟨v, rfl, hj, hP, hTr⟩ := hm
      obtain ⟨ty, xv, rfl⟩ := hTr.isIface
      have HTr := Lib.hid hTr
      clear hTr
      have y2 : w5.cell? ⟨w.heap.size, 0, none⟩ = some .nilIface := q2'.cell 0
      have g2 := q2'.frozen 0
      have r2 := q2'.set 0 (.iface ty xv)
      have r3 := q3'.other ⟨w.heap.size, 0, none⟩ (.iface ty xv) (show w.heap.size + 1 ≠ w.heap.size by omega)
      have r4 := q4'.other ⟨w.heap.size, 0, none⟩ (.iface ty xv) (show w.heap.size + 1 + 1 ≠ w.heap.size by omega)
      have rP : Prs (w5.setCell ⟨w.heap.size, 0, none⟩ (.iface ty xv)) (w.heap.size + 1 + 1 + 1) s j := Blk.other hP _ _ (show w.heap.size + 1 + 1 + 1 ≠ w.heap.size by omega)
      have hb6 := hb5.setCell (p := ⟨w.heap.size, 0, none⟩) (Nat.le_refl _) (.iface ty xv)
      have hTr6 := Lib.hid (HTr.out.kp (P2 := fun b => w.heap.size ≤ b) ((Kp.refl (fun z => z = w.heap.size) w5).set w.heap.size 0 (.iface ty xv) (fun _ => rfl)) (fun b _ h e => by omega) (fun b _ h => by omega))
      go_upto_region 6 with fail
      generalize eW : w5.setCell ⟨w.heap.size, 0, none⟩ (.iface ty xv) = w6 at *
      clear q2' q3' q4' y2 g2 hP
      have q2' : Blk w6 w.heap.size #[.iface ty xv] 64 := r2
      have q3' := r3
      have q4' := r4
      clear r2 r3 r4
      have y1 : w6.cell? ⟨w.heap.size + 1 + 1 + 1, 1, none⟩ = some (.int .i64 (j : Int)) := Blk.cell rP 1
      by_cases hjs : j < s.size
      · have hji : (j : Int) < (s.size : Int) := by omega
        go_wp2_with fail
        refine (fail_any _ _).mono ?_
        rintro e w7 ⟨rfl, rfl⟩
        go_wp2
        refine leaves_cons (f := 40) (args := #[.pointer (some ⟨w.heap.size, 0, none⟩), .pointer (some ⟨w.heap.size + 1, 0, none⟩), .pointer (some ⟨w.heap.size + 1 + 1, 0, none⟩)]) (by simp) (by simp [go_sem]) ?_
        have k3 := q3'.other ⟨w.heap.size, 0, none⟩ .nilIface (show w.heap.size + 1 ≠ w.heap.size by omega)
        have k4 := (q4'.other ⟨w.heap.size, 0, none⟩ .nilIface (show w.heap.size + 1 + 1 ≠ w.heap.size by omega)).other ⟨w.heap.size + 1, 0, none⟩ (.int .i64 110) (show w.heap.size + 1 + 1 ≠ w.heap.size + 1 by omega)
        refine (catch_panicking _ _ _ (.iface ty xv) (.int .i64 0) (.int .i64 0) _ _ _ (q2'.cell 0) (k3.cell 0) (k4.cell 0) (q2'.frozen 0) (k3.frozen 0) (k4.frozen 0)).mono ?_
        rintro e u' w'' ⟨rfl, rfl, rfl⟩
        have j2 := ((q2'.set 0 .nilIface).other ⟨w.heap.size + 1, 0, none⟩ (.int .i64 110) (show w.heap.size ≠ w.heap.size + 1 by omega)).other ⟨w.heap.size + 1 + 1, 0, none⟩ (.int .i64 (j : Nat)) (show w.heap.size ≠ w.heap.size + 1 + 1 by omega)
        have j3 := (k3.set 0 (.int .i64 110)).other ⟨w.heap.size + 1 + 1, 0, none⟩ (.int .i64 (j : Nat)) (show w.heap.size + 1 ≠ w.heap.size + 1 + 1 by omega)
        have j4 := k4.set 0 (.int .i64 (j : Nat))
        have hbf := ((hb6.setCell (p := ⟨w.heap.size, 0, none⟩) (Nat.le_refl _) .nilIface).setCell (p := ⟨w.heap.size + 1, 0, none⟩) (show w.heap.size ≤ w.heap.size + 1 by omega) (.int .i64 110)).setCell (p := ⟨w.heap.size + 1 + 1, 0, none⟩) (show w.heap.size ≤ w.heap.size + 1 + 1 by omega) (.int .i64 (j : Nat))
        generalize ((w7.setCell ⟨w.heap.size, 0, none⟩ .nilIface).setCell ⟨w.heap.size + 1, 0, none⟩ (.int .i64 110)).setCell ⟨w.heap.size + 1 + 1, 0, none⟩ (.int .i64 (j : Nat)) = w9 at *
        have z2 : w9.cell? ⟨w.heap.size, 0, none⟩ = some .nilIface := j2.cell 0
        have z3 : w9.cell? ⟨w.heap.size + 1, 0, none⟩ = some (.int .i64 110) := j3.cell 0
        have z4 : w9.cell? ⟨w.heap.size + 1 + 1, 0, none⟩ = some (.int .i64 (j : Nat)) := j4.cell 0
        simp [Leaves, settle, results, Tryd.results27, go_sem, z2, z3, z4]
        exact ⟨hbf, none, j, .more (by omega) HG.out hjs, rfl⟩
      · have hji : ¬ (j : Int) < (s.size : Int) := by omega
        have hjn : j = s.size := by omega
        have y2 : w6.cell? ⟨w.heap.size, 0, none⟩ = some (.iface ty xv) := q2'.cell 0
        have y3 : w6.cell? ⟨w.heap.size + 1, 0, none⟩ = some (.int .i64 0) := q3'.cell 0
        have y4 : w6.cell? ⟨w.heap.size + 1 + 1, 0, none⟩ = some (.int .i64 0) := q4'.cell 0
        have g2 := q2'.frozen 0
        have g3 := q3'.frozen 0
        have g4 := q4'.frozen 0
        rw [hjn] at HG
        clear hjn
        have ne1 : w.heap.size ≠ w.heap.size + 1 := by omega
        have ne2 : w.heap.size ≠ w.heap.size + 1 + 1 := by omega
        have ne3 : w.heap.size + 1 ≠ w.heap.size + 1 + 1 := by omega
        have j2 := ((q2'.set 0 (.iface ty xv)).other ⟨w.heap.size + 1, 0, none⟩ (.int .i64 0) ne1).other ⟨w.heap.size + 1 + 1, 0, none⟩ (.int .i64 0) ne2
        have j3 := ((q3'.other ⟨w.heap.size, 0, none⟩ (.iface ty xv) ne1.symm).set 0 (.int .i64 0)).other ⟨w.heap.size + 1 + 1, 0, none⟩ (.int .i64 0) ne3
        have j4 := ((q4'.other ⟨w.heap.size, 0, none⟩ (.iface ty xv) ne2.symm).other ⟨w.heap.size + 1, 0, none⟩ (.int .i64 0) ne3.symm).set 0 (.int .i64 0)
        have hbf := ((hb6.setCell (p := ⟨w.heap.size, 0, none⟩) (Nat.le_refl _) (.iface ty xv)).setCell (p := ⟨w.heap.size + 1, 0, none⟩) (show w.heap.size ≤ w.heap.size + 1 by omega) (.int .i64 0)).setCell (p := ⟨w.heap.size + 1 + 1, 0, none⟩) (show w.heap.size ≤ w.heap.size + 1 + 1 by omega) (.int .i64 0)
        have hTf := HTr.out.kp (P2 := fun b => w.heap.size ≤ b) (((((Kp.refl (fun z => z = w.heap.size ∨ z = w.heap.size + 1 ∨ z = w.heap.size + 1 + 1) w5).set w.heap.size 0 (.iface ty xv) (fun _ => .inl rfl)).set w.heap.size 0 (.iface ty xv) (fun _ => .inl rfl)).set (w.heap.size + 1) 0 (.int .i64 0) (fun _ => .inr (.inl rfl))).set (w.heap.size + 1 + 1) 0 (.int .i64 0) (fun _ => .inr (.inr rfl))) (fun b _ h e => by rcases e with e | e | e <;> omega) (fun b _ h => by omega)
        rw [eW] at hTf
        have z2 := Lib.hid (j2.cell 0)
        have z3 := Lib.hid (j3.cell 0)
        have z4 := Lib.hid (j4.cell 0)
        have HBF := Lib.hid (And.intro hbf hTf)
        clear j2 j3 j4 hbf hTf
        go_wp2
        refine leaves_cons (f := 40) (args := #[.pointer (some ⟨w.heap.size, 0, none⟩), .pointer (some ⟨w.heap.size + 1, 0, none⟩), .pointer (some ⟨w.heap.size + 1 + 1, 0, none⟩)]) (by simp) (by simp [go_sem]) ?_
        refine (catch_idle _ _ _ _).mono ?_
        rintro e u' w'' ⟨rfl, rfl, rfl⟩
        have z2 := z2.out
        have z3 := z3.out
        have z4 := z4.out
        generalize ((w6.setCell ⟨w.heap.size, 0, none⟩ (.iface ty xv)).setCell ⟨w.heap.size + 1, 0, none⟩ (.int .i64 0)).setCell ⟨w.heap.size + 1 + 1, 0, none⟩ (.int .i64 0) = w9 at *
        have z2 : w9.cell? ⟨w.heap.size, 0, none⟩ = some (.iface ty xv) := z2
        have z3 : w9.cell? ⟨w.heap.size + 1, 0, none⟩ = some (.int .i64 0) := z3
        have z4 : w9.cell? ⟨w.heap.size + 1 + 1, 0, none⟩ = some (.int .i64 0) := z4
        simp [Leaves, settle, results, Tryd.results27, go_sem, z2, z3, z4]
        exact ⟨HBF.out.1, some t, 0, .ok (by omega) HG.out, _, rfl, HBF.out.2⟩
end Go.Proofs.YtlocogccjlecjaaDoor
