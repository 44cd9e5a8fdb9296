/- Plan of every way, every list of slots and every list of goals is what the document says, and leaves all three, with the marks behind them, as they were, where what came in is of bulk at most 1048576. -/
import Derived.Test.YtlcgkdhcdldlfaaJudgeW
import Derived.Test.YtlcgkdhcdldlfaaArg
import Derived.Test.YtlcgkdhcdldlfaaBulk
import Derived.WalkKit
import Derived.ProofKit
import Derived.OpenShut
import Derived.ShutString
import Derived.ChangeOld
import Derived.Below
import Derived.SizedLaws
import Derived.Deep.CondSized
namespace Go.Proofs.Ytlcgkdhcdldlfaa.judgePlansUpto
open Go.ChangeShapes Go.WideShapes Go.ChangeAt Go.RowKit
set_option linter.unusedVariables false

theorem own : ownKnob Try.prog.godebug = none := by kernel_rfl
theorem laidOut : laidOutB Try.prog = true := by kernel_rfl

set_option maxRecDepth 100000 in
theorem contract (H : Type) (enc : TypeId × Value → H) (W : World) (base : Nat) (args : Array Value) (ds gs : List (DataW H)) (before : List MemPlace)
    (hval : ∀ (j : Nat) t v, Try.f5.params[j]? = some t → args[j]? = some v → Value.okWide Try.prog W .any base t v)
    (hW : DataW.Whole enc Try.prog Try.f5.params.toList Rows.judgePlansSpec.vars false W args.toList ds gs before)
    (hk : Rows.uptoSmall H (ds ++ gs) = true)
    (hsz : (DataW.weightsEach Try.prog (Try.f5.params.toList ++ Rows.judgePlansSpec.plain.varTypes Try.prog) (ds ++ gs)).all (· ≤ reachBytes) = true) :
    Calls Try.prog 5 args W fun e W' => ∃ v, e = .returned v ∧ Rows.judgePlansSpec.post enc Try.prog Try.f5 false true false false W args v W' := by
  have hW' := hW
  obtain ⟨p, q, hA0, hV, rfl, hfz, hnd⟩ := hW
  have hA : DataW.TrodAll enc Try.prog W 0 (fun _ => true) true Try.f5.params.toList args.toList ds p := hA0
  rw [Try.params5] at hA hval hsz
  obtain ⟨v0, vs0, d0, ds0, p0, q0, hargs, rfl, rfl, h0, r0⟩ := trodAll_cons hA
  obtain ⟨v1, vs1, d1, ds1, p1, q1, rfl, rfl, rfl, h1, r1⟩ := trodAll_cons r0
  obtain ⟨v2, vs2, d2, ds2, p2, q2, rfl, rfl, rfl, h2, r2⟩ := trodAll_cons r1
  obtain ⟨rfl, rfl, rfl⟩ := trodAll_nil r2
  obtain rfl : args = #[v0, v1, v2] := by cases args; simp_all
  obtain ⟨rfl, rfl⟩ := trodVars_none hV
  have k0 := h0
  have lt0 : ∀ x ∈ p0, x.block < W.heap.size := by obtain ⟨m, hm⟩ := k0; exact DataW.trod_lt m _ _ _ hm
  have k1 := h1
  have lt1 : ∀ x ∈ p1, x.block < W.heap.size := by obtain ⟨m, hm⟩ := k1; exact DataW.trod_lt m _ _ _ hm
  have k2 := h2
  have lt2 : ∀ x ∈ p2, x.block < W.heap.size := by obtain ⟨m, hm⟩ := k2; exact DataW.trod_lt m _ _ _ hm
  obtain ⟨A0, n0, c0, rfl⟩ := okWide_slice Try.underlying23 (hval 0 23 v0 rfl rfl)
  obtain ⟨x0, l0, rd0, wf0⟩ := ints_of h0
  have sz0 := rows_len (j := 0) (sz := 1) (B := 8) hsz rfl rfl Try.underlying23 (by kernel_rfl) (by decide) (by kernel_rfl) h0
  have le0 : n0 ≤ c0 := by
    rcases open_rows (sz := 1) Try.underlying23 (by kernel_rfl) (by decide) h0 with ⟨_, rfl, _, _⟩ | ⟨_, _, _, hl, _⟩ <;> omega
  obtain ⟨A1, n1, c1, rfl⟩ := okWide_slice Try.underlying23 (hval 1 23 v1 rfl rfl)
  obtain ⟨x1, l1, rd1, wf1⟩ := ints_of h1
  have sz1 := rows_len (j := 1) (sz := 1) (B := 8) hsz rfl rfl Try.underlying23 (by kernel_rfl) (by decide) (by kernel_rfl) h1
  have le1 : n1 ≤ c1 := by
    rcases open_rows (sz := 1) Try.underlying23 (by kernel_rfl) (by decide) h1 with ⟨_, rfl, _, _⟩ | ⟨_, _, _, hl, _⟩ <;> omega
  obtain ⟨A2, n2, c2, rfl⟩ := okWide_slice Try.underlying23 (hval 2 23 v2 rfl rfl)
  obtain ⟨x2, l2, rd2, wf2⟩ := ints_of h2
  have sz2 := rows_len (j := 2) (sz := 1) (B := 8) hsz rfl rfl Try.underlying23 (by kernel_rfl) (by decide) (by kernel_rfl) h2
  have le2 : n2 ≤ c2 := by
    rcases open_rows (sz := 1) Try.underlying23 (by kernel_rfl) (by decide) h2 with ⟨_, rfl, _, _⟩ | ⟨_, _, _, hl, _⟩ <;> omega
  have hs0 := (small_slice (j := 0) (sz := 1) hk rfl Try.underlying23 (by kernel_rfl) (by decide) h0).1
  clear hA0
  refine (judgePlans_any A0 A1 A2 n0 c0 n1 c1 n2 c2 x0 x1 x2 W l0 (by omega) rd0 l1 (by omega) rd1 l2 (by omega) rd2 wf2).mono fun e W' ⟨he, bel⟩ => ?_
  subst he
  exact ⟨_, rfl, _, _, _, [], _, [], hW', trodAll_mk1 (shut_bool Try.underlying4 _), (trodAll_cons_mk (Below.trod laidOut (by kernel_rfl) (of_decide_eq_true (by kernel_rfl)) k0 bel lt0) (trodAll_cons_mk (Below.trod laidOut (by kernel_rfl) (of_decide_eq_true (by kernel_rfl)) k1 bel lt1) (trodAll_cons_mk (Below.trod laidOut (by kernel_rfl) (of_decide_eq_true (by kernel_rfl)) k2 bel lt2) trodAll_mk0))), rfl, bel.frame _, fun h => by cases h⟩

set_option maxRecDepth 100000 in
theorem lifted (os : Os) (started : os.Started) (H : Type) (enc : TypeId × Value → H) (F : Stop.Interp) :
    ReturnsInHanded {} Try.checked os 5 .any ((Rows.OpenSpec.upto Rows.judgePlansSpec).pre6 enc Try.prog Try.f5 Rows.judgePlansUptoRow.domain false) (((Rows.OpenSpec.upto Rows.judgePlansSpec).at F).post enc Try.prog Try.f5 false true false false) := by
  refine returnsInHanded_of_cond_sized (C := Try.checked) (s := Rows.OpenSpec.upto Rows.judgePlansSpec) (k := Rows.uptoSmall) rfl own started (by kernel_rfl) Try.func5
    (OpenSpec.witness (enc := enc) (C := Try.checked) (s := Rows.OpenSpec.upto Rows.judgePlansSpec) (k := Rows.uptoSmall) rfl false ⟨#[], #[.slice none 0 0, .slice none 0 0, .slice none 0 0], []⟩ 8 (by kernel_rfl) (by kernel_rfl) (by kernel_rfl)
      (x := ([.nil, .nil, .nil], [], [])) (by kernel_rfl) rfl (by kernel_rfl)) ?_
  intro W base args ds gs before hval hW _ hk hsz _
  exact contract H enc W base args ds gs before hval hW hk hsz
theorem over : Rows.judgePlansUptoRow.holds Try.pinned (Rows.OpenSpec.upto Rows.judgePlansSpec) :=
  OpenClaim.holds_of_cond 5 Try.f5 rfl rfl rfl rfl rfl rfl rfl ⟨rfl, rfl, rfl, rfl, rfl⟩ rfl rfl rfl rfl rfl (by kernel_rfl) Try.func5 (by kernel_rfl)
    (of_decide_eq_true (by kernel_rfl)) (by unfold Func.isWrapper; first | (rw [if_pos (by decide +kernel)]; kernel_rfl) | (rw [if_neg (by decide +kernel)]; exact ⟨rfl, rfl⟩))
    (fun os started H enc _ F => lifted os started H enc F)
theorem proved : Rows.JudgePlansUptoSaid := over
#print axioms proved
end Go.Proofs.Ytlcgkdhcdldlfaa.judgePlansUpto
namespace Go.Proofs.Ytlcgkdhcdldlfaa
theorem judgePlansUpto_holds : Rows.JudgePlansUptoSaid := judgePlansUpto.proved
end Go.Proofs.Ytlcgkdhcdldlfaa
