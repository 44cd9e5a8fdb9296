import Derived.Test.YtlocogccjlecjaaDoorPas
namespace Go.Proofs.YtlocogccjlecjaaDoor
open Go.RowKit
/-- the lowest bit is struck -/
theorem strike {a : Nat} (h0 : a ≠ 0) (h : a < 18446744073709551616) : Lib.ctz 64 a < 64 ∧ a.testBit (Lib.ctz 64 a) = true ∧ ∀ j, (a &&& (a - 1)).testBit j = (a.testBit j && decide (j ≠ Lib.ctz 64 a)) := by
  obtain ⟨m, hm, hk⟩ := Lib.ctzFrom_spec 64 a (by omega) h
  have hc : Lib.ctz 64 a = Lib.ctzFrom 64 a := by unfold Lib.ctz; rw [if_neg h0]
  rw [← hc] at hm hk
  generalize Lib.ctz 64 a = k at *
  have hp : 0 < 2 ^ k := Nat.two_pow_pos k
  have e1 : a = 2 ^ k * (2 * m + 1) + 0 := by omega
  have e2 : a - 1 = 2 ^ k * (2 * m) + (2 ^ k - 1) := by
    rw [hm, Nat.mul_add, Nat.mul_one]; omega
  have t1 : ∀ j, a.testBit j = if j < k then false else (2 * m + 1).testBit (j - k) := fun j => by
    rw [e1, Nat.testBit_two_pow_mul_add _ hp]
    simp
  have t2 : ∀ j, (a - 1).testBit j = if j < k then true else (2 * m).testBit (j - k) := fun j => by
    rw [e2, Nat.testBit_two_pow_mul_add _ (by omega)]
    split
    · rw [Nat.testBit_two_pow_sub_one]; simpa
    · rfl
  refine ⟨hk, by rw [t1, if_neg (Nat.lt_irrefl k), Nat.sub_self]; simp, fun j => ?_⟩
  rw [Nat.testBit_and, t1, t2]
  by_cases hj : j < k
  · simp [hj]
  · rw [if_neg hj, if_neg hj]
    by_cases he : j = k
    · subst he
      simp
    · rw [decide_eq_true he, Bool.and_true]
      obtain ⟨q, hq⟩ : ∃ q, j - k = q + 1 := ⟨j - k - 1, by omega⟩
      rw [hq, Nat.testBit_succ, Nat.testBit_succ]
      rw [show (2 * m + 1) / 2 = m by omega, show 2 * m / 2 = m by omega]
      simp
/-- to each of a come those of b -/
def linkF (fs : List Nat) (a b : Nat) : List Nat := fs.mapIdx (fun i f => if a.testBit i then f ||| b else f)
def U64 (l : List Nat) : List Value := l.map fun n => .int .u64 ((n : Nat) : Int)
theorem linkF_step {fs : List Nat} {a b i : Nat} (hi : i < fs.length) (ha : a.testBit i = true) (hs : ∀ j, (a &&& (a - 1)).testBit j = (a.testBit j && decide (j ≠ i))) : linkF (fs.set i (fs[i] ||| b)) (a &&& (a - 1)) b = linkF fs a b := by
  unfold linkF
  refine List.ext_getElem (by simp) (fun j h1 h2 => ?_)
  simp only [List.getElem_mapIdx, List.getElem_set, hs]
  by_cases hj : i = j
  · subst hj
    simp [ha]
  · have h5 : decide (j ≠ i) = true := by simp only [decide_eq_true_eq]; exact fun e => hj e.symm
    rw [if_neg hj, h5, Bool.and_true]
theorem linkF_zero (fs : List Nat) (b : Nat) : linkF fs 0 b = fs := by
  unfold linkF
  exact List.ext_getElem (by simp) (fun j _ _ => by simp)
theorem U64_set (l : List Nat) (i x : Nat) : U64 (l.set i x) = (U64 l).set i (.int .u64 ((x : Nat) : Int)) := by simp [U64, List.map_set]
set_option maxRecDepth 100000 in
set_option maxHeartbeats 4000000 in
/-- link -/
theorem link_any (x : Nat) (rv : Value) (A : Option Addr) (n c B : Nat) (fs : List Nat) (a b : Nat) (w : World) (hx : Blk w x #[rv, .slice A n c] 71) (hf : w.ownsRow B 72 1 (.slice A n c) n (U64 fs)) (hn : fs.length = n) (hfl : ∀ f ∈ fs, f < 18446744073709551616)
    (ha : a < 18446744073709551616) (hb : b < 18446744073709551616) (hab : ∀ j, a.testBit j = true → j < n) (hT : Tab w) (hB : 0 < B) :
    Calls Tryd.prog 43 #[.pointer (some ⟨x, 0, none⟩), .int .u64 ((a : Nat) : Int), .int .u64 ((b : Nat) : Int)] w fun e w' => e = .returned (.tuple #[]) ∧ w'.ownsRow B 72 1 (.slice A n c) n (U64 (linkF fs a b)) ∧ (∀ f ∈ linkF fs a b, f < 18446744073709551616) ∧ Kp (fun z => (Value.slice A n c).ownBlock = some z) w w' := by
  have hxn : ¬ (Value.slice A n c).ownBlock = some x := fun e => hx.not_row (by decide) hf e.symm
  have hT0 : ¬ (Value.slice A n c).ownBlock = some 0 := fun e => by have := (own_lt hf 0 e).1; omega
  go_enter Tryd.func43, Tryd.ntmps43
  go_wp2
  go_loopw [1] (fun av wr => ∃ (a' : Nat) (fs' : List Nat), av = .int .u64 ((a' : Nat) : Int) ∧ a' < 18446744073709551616 ∧ fs'.length = n ∧ (∀ f ∈ fs', f < 18446744073709551616) ∧ (∀ j, a'.testBit j = true → j < n) ∧ wr.ownsRow B 72 1 (.slice A n c) n (U64 fs') ∧ linkF fs' a' b = linkF fs a b ∧ Kp (fun z => (Value.slice A n c).ownBlock = some z) w wr) (fun av _ => (intOf av).toNat)
  case atStart => exact ⟨a, fs, rfl, ha, hn, hfl, hab, hf, rfl, Kp.refl _ _⟩
  case round =>
    clear hf hfl hab ha
    obtain ⟨a', fs', rfl, ha', hn', hfl', hab', hf', hlk, hk⟩ := hrel
    have HLK := Lib.hid hlk
    have HFL := Lib.hid hfl'
    clear hlk hfl'
    by_cases h0 : a' = 0
    · subst h0
      rw [linkF_zero] at HLK
      go_wp2
      go_end0
      rw [← HLK.out]
      exact ⟨rfl, hf', HFL.out, hk⟩
    · have hne : (((a' : Nat) : Int) != 0) = true := by simp; omega
      obtain ⟨hi64, hbit, hst⟩ := strike h0 ha'
      have hin := hab' _ hbit
      have hTr : Tab wr := hT.kp hk hT0
      have hc := Lib.hid (fun w' (h : Tab w') => tz_any a' ha' w' h h0)
      have hlt := Lib.hid (show a' &&& (a' - 1) < a' from Nat.lt_of_le_of_lt Nat.and_le_right (by omega))
      have hxr := hx.kp hk hxn
      have hsub : IntKind.u64.wrap ((a' : Int) - 1) = ((a' - 1 : Nat) : Int) := by rw [IntKind.wrap_u64]; omega
      have hand : bits BinOp.and IntKind.u64 ((a' : Nat) : Int) ((a' - 1 : Nat) : Int) = ((a' &&& (a' - 1) : Nat) : Int) := bits_and_u64_nat _ _ ha' (by omega)
      generalize Lib.ctz 64 a' = i at *
      obtain ⟨g, rfl⟩ : ∃ g, A = some ⟨g, 0, none⟩ := by
        obtain ⟨g, cap, he⟩ := own_some hf' (by omega)
        injection he with he _ _
        exact ⟨g, he⟩
      have hil : i < fs'.length := by omega
      have hstep := linkF_step (b := b) hil hbit hst
      have fi64 := HFL.out _ (List.getElem_mem hil)
      have y0 : wr.cell? ⟨x, 1, none⟩ = some (.slice (some ⟨g, 0, none⟩) n c) := hxr.cell 1
      have yi : wr.cell? ⟨g, i, none⟩ = some (.int .u64 ((fs'[i] : Nat) : Int)) := by
        obtain ⟨g2, o2, he, hy⟩ := (own_rdA hf').at i (by simp [U64]; omega)
        injection he with he
        injection he with e1 e2
        subst e1 e2
        rw [Nat.zero_add] at hy
        rw [hy]
        simp [U64]
      have hor : bits BinOp.or IntKind.u64 ((fs'[i] : Nat) : Int) ((b : Nat) : Int) = ((fs'[i] ||| b : Nat) : Int) := bits_or_u64_nat _ _ fi64 hb
      have fl2 : ∀ f ∈ fs'.set i (fs'[i] ||| b), f < 18446744073709551616 := fun f hf => by
        rcases List.mem_or_eq_of_mem_set hf with h | rfl
        · exact HFL.out f h
        · exact Nat.or_lt_two_pow (n := 64) fi64 hb
      generalize hfi : fs'[i] = fi at *
      have yd : wr.drew.cell? ⟨g, i, none⟩ = some (.int .u64 ((fi : Nat) : Int)) := yi
      have fd := World.ownsRow.frozenAt (w := wr.drew) hf' i
      have st := (World.ownsRow.stored (w := wr.drew) hf' i (.int .u64 ((fi ||| b : Nat) : Int))).1
      rw [← U64_set] at st
      have ek : (⟨g, 0, none⟩ : Addr).add i = ⟨g, i, none⟩ := by simpa using addr_add g 0 i
      have hii : (i : Int) < (n : Int) := by omega
      have hk2 : Kp (fun z => (Value.slice (some ⟨g, 0, none⟩) n c).ownBlock = some z) w (wr.drew.setCell ⟨g, i, none⟩ (.int .u64 ((fi ||| b : Nat) : Int))) := Kp.set (w1 := wr.drew) ⟨hk.os, hk.tape, hk.output, hk.size, hk.block⟩ g i _ (fun _ => rfl)
      have PP := Lib.hid (And.intro st (And.intro fl2 (And.intro hstep hk2)))
      have LN := Lib.hid (show (fs'.set i (fi ||| b)).length = n by simpa using hn')
      have AB := Lib.hid (fun j (h : (a' &&& (a' - 1)).testBit j = true) => hab' j (by rw [hst] at h; simp at h; exact h.1))
      have L64 := Lib.hid (show a' &&& (a' - 1) < 18446744073709551616 from Nat.lt_of_le_of_lt Nat.and_le_left ha')
      clear st fl2 hstep hk2 hst hbit hf' hk hab' hfi
      go_wp2
      go_still_tail 11, (by kernel_rfl)
      still_call ((hc.out wr.drew hTr))
      repeat still_step
      refine wpStill_nil ?_
      change wpList _ _ _ _ _ wr.drew
      generalize wr.drew = wd' at *
      clear yi y0
      go_wp2
      go_roundw
      case rel => exact ⟨a' &&& (a' - 1), _, rfl, L64.out, LN.out, PP.out.2.1, AB.out, PP.out.1, by rw [PP.out.2.2.1]; exact HLK.out, PP.out.2.2.2⟩
      case measure => simp [intOf]; exact hlt.out
end Go.Proofs.YtlocogccjlecjaaDoor
