/- The numbers for which Below is k begin and end where they must, and Below rises: at every four numbers of 64 bits. No condition. -/
import Derived.Test.YtbkphkbkfhpaaaaEvenX
import Derived.WalkKit
import Derived.ProofKit
import Derived.OpenShut
import Derived.ShutString
import Derived.ChangeOld
import Derived.Below
import Derived.SizedLaws
import Derived.Lib.SmallJoins
namespace Go.Proofs.Ytbkphkbkfhpaaaa.drawEven
open Go.ChangeShapes Go.WideShapes Go.ChangeAt Go.RowKit
set_option linter.unusedVariables false

theorem own : ownKnob Try.prog.godebug = none := by kernel_rfl
theorem laidOut : laidOutB Try.prog = true := by kernel_rfl
theorem inU_of_wf {x : Int} (h : (Lit.int .u64 x).wf = true) : InU x := by
  simp [Lit.wf, IntKind.min, IntKind.max, IntKind.signed, IntKind.bits] at h
  unfold InU
  omega

theorem even_of {H : Type} {enc : TypeId × Value → H} {W : World} {base : Nat} {v : Value} {d : DataW H} {ps : List MemPlace}
    (hv : Value.okWide Try.prog W .any base 26 v) (h : DataW.Trod enc Try.prog W 0 (fun _ => true) true 26 v d ps) :
    ∃ a b c e : Nat, v = .agg #[.int .u64 (a : Int), .int .u64 (b : Int), .int .u64 (c : Int), .int .u64 (e : Int)] ∧ a < 18446744073709551616 ∧ b < 18446744073709551616 ∧ c < 18446744073709551616 ∧ e < 18446744073709551616 := by
  obtain ⟨c0, c1, c2, c3, y0, y1, y2, y3, m, rfl, _, _, g0, g1, g2, g3⟩ := Go.Joins.open_agg4 Try.underlying26 (by kernel_rfl) (by kernel_rfl) hv h
  obtain ⟨s0, e0, _, w0⟩ := DataW.trod_int Try.underlying22 g0
  obtain ⟨s1, e1, _, w1⟩ := DataW.trod_int Try.underlying22 g1
  obtain ⟨s2, e2, _, w2⟩ := DataW.trod_int Try.underlying22 g2
  obtain ⟨s3, e3, _, w3⟩ := DataW.trod_int Try.underlying22 g3
  simp at e0 e1 e2 e3
  subst e0 e1 e2 e3
  obtain ⟨n0, rfl, l0⟩ := (inU_of_wf w0).nat
  obtain ⟨n1, rfl, l1⟩ := (inU_of_wf w1).nat
  obtain ⟨n2, rfl, l2⟩ := (inU_of_wf w2).nat
  obtain ⟨n3, rfl, l3⟩ := (inU_of_wf w3).nat
  exact ⟨n0, n1, n2, n3, rfl, l0, l1, l2, l3⟩
theorem even_any (K N U More : Nat) (hK : K < 18446744073709551616) (hN : N < 18446744073709551616) (hU : U < 18446744073709551616) (hM : More < 18446744073709551616) (w : World) :
    Calls Try.prog 4 #[.agg #[.int .u64 (K : Int), .int .u64 (N : Int), .int .u64 (U : Int), .int .u64 (More : Int)]] w fun e w' => e = .returned (.bool true) ∧ Below w.heap.size w w' := by
  by_cases h0 : N = 0
  · subst h0
    exact even_zero K U More hU w
  · by_cases h1 : K % N = 0
    · exact even_nil K N U More h0 hK hN hU hM h1 w
    · exact even_pos K N U More h0 hK hN hU hM h1 w

set_option maxRecDepth 100000 in
theorem contract (H : Type) (enc : TypeId × Value → H) (W : World) (base : Nat) (args : Array Value) (ds gs : List (DataW H)) (before : List MemPlace)
    (hval : ∀ (j : Nat) t v, Try.f4.params[j]? = some t → args[j]? = some v → Value.okWide Try.prog W .any base t v)
    (hW : DataW.Whole enc Try.prog Try.f4.params.toList Rows.drawEvenSpec.vars false W args.toList ds gs before)
    (hsz : (DataW.weightsEach Try.prog (Try.f4.params.toList ++ Rows.drawEvenSpec.plain.varTypes Try.prog) (ds ++ gs)).all (· ≤ reachBytes) = true) :
    Calls Try.prog 4 args W fun e W' => ∃ v, e = .returned v ∧ Rows.drawEvenSpec.post enc Try.prog Try.f4 false true false false W args v W' := by
  have hW' := hW
  obtain ⟨p, q, hA0, hV, rfl, hfz, hnd⟩ := hW
  have hA : DataW.TrodAll enc Try.prog W 0 (fun _ => true) true Try.f4.params.toList args.toList ds p := hA0
  rw [Try.params4] at hA hval hsz
  obtain ⟨v0, vs0, d0, ds0, p0, q0, hargs, rfl, rfl, h0, r0⟩ := trodAll_cons hA
  obtain ⟨rfl, rfl, rfl⟩ := trodAll_nil r0
  obtain rfl : args = #[v0] := by cases args; simp_all
  obtain ⟨rfl, rfl⟩ := trodVars_none hV
  have k0 := h0
  have lt0 : ∀ x ∈ p0, x.block < W.heap.size := by obtain ⟨m, hm⟩ := k0; exact DataW.trod_lt m _ _ _ hm
  obtain ⟨a0, a1, a2, a3, rfl, l0, l1, l2, l3⟩ := even_of (hval 0 26 v0 rfl rfl) h0
  clear hA0
  refine (even_any a0 a1 a2 a3 l0 l1 l2 l3 W).mono fun e W' ⟨he, bel⟩ => ?_
  subst he
  exact ⟨_, rfl, _, _, _, [], _, [], hW', trodAll_mk1 (shut_bool Try.underlying4 _), (trodAll_cons_mk (Below.trod laidOut (by kernel_rfl) (of_decide_eq_true (by kernel_rfl)) k0 bel lt0) trodAll_mk0), rfl, bel.frame _, fun h => by cases h⟩

set_option maxRecDepth 100000 in
theorem lifted (os : Os) (started : os.Started) (H : Type) (enc : TypeId × Value → H) :
    ReturnsInHanded {} Try.checked os 4 .any (Rows.drawEvenSpec.pre6 enc Try.prog Try.f4 Rows.drawEvenRow.domain false) (Rows.drawEvenSpec.post enc Try.prog Try.f4 false true false false) := by
  refine returnsInHanded_of_change_sized (C := Try.checked) own started (by kernel_rfl) Try.func4
    (ChangeSpec.witness6 (enc := enc) (C := Try.checked) false ⟨#[], #[.agg #[.int .u64 0, .int .u64 0, .int .u64 0, .int .u64 0]], []⟩ 8 (by kernel_rfl) (by kernel_rfl) (by kernel_rfl) (by kernel_rfl)) ?_
  intro W base args ds gs before hval hW hcnd hsz _
  exact contract H enc W base args ds gs before hval hW hsz
theorem over : Rows.drawEvenRow.holds Try.pinned (OpenSpec.ofChange Rows.drawEvenSpec) :=
  OpenClaim.holds_of_wide 4 Try.f4 rfl rfl rfl rfl rfl rfl rfl ⟨rfl, rfl, rfl, rfl, rfl⟩ rfl rfl rfl rfl rfl (by kernel_rfl) Try.func4 (by kernel_rfl)
    (of_decide_eq_true (by kernel_rfl)) (by unfold Func.isWrapper; first | (rw [if_pos (by decide +kernel)]; kernel_rfl) | (rw [if_neg (by decide +kernel)]; exact ⟨rfl, rfl⟩))
    (fun os started H enc _ => lifted os started H enc)
theorem proved : Rows.DrawEvenSaid := over
#print axioms proved
end Go.Proofs.Ytbkphkbkfhpaaaa.drawEven
namespace Go.Proofs.Ytbkphkbkfhpaaaa
theorem drawEven_holds : Rows.DrawEvenSaid := drawEven.proved
end Go.Proofs.Ytbkphkbkfhpaaaa
