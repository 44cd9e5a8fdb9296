import Derived.Test.YtlocogccjlecjaaDoorSetP
import Derived.StillTailTactics
namespace Go.Proofs.YtlocogccjlecjaaDoor
open Go.RowKit
set_option maxRecDepth 100000 in
set_option maxHeartbeats 2000000 in
/-- add -/
theorem add_any (N b p : Nat) (hb : b < 256) (w : World) (hp : Blk w p (setC N) 84) :
    Calls Tryd.prog 74 #[.pointer (some ⟨p, 0, none⟩), .int .u8 (b : Int)] w fun e w' => e = .returned (.tuple #[]) ∧ Blk w' p (setC (N ||| 1 <<< b)) 84 ∧ Kp (fun z => z = p) w w' := by
  obtain ⟨i, hi⟩ : ∃ i, i = b / 64 := ⟨_, rfl⟩
  have hc : w.drew.cell? ⟨p, i, none⟩ = some (.int .u64 (wd N i : Nat)) := by rw [hp.drew.cell]; exact setC_get N i (by omega)
  have hf := hp.drew.frozen i
  have ea : (⟨p, 0, none⟩ : Addr).add i = ⟨p, i, none⟩ := by simpa using addr_add p 0 i
  have hdiv : (b : Int) / 64 = (i : Int) := by omega
  have hwi : IntKind.u8.wrap (i : Int) = (i : Int) := by rw [IntKind.wrap_u8]; omega
  have hi4 : (i : Int) < 4 := by omega
  obtain ⟨r, hr⟩ : ∃ r, r = b % 64 := ⟨_, rfl⟩
  have hrem : (b : Int).tmod 64 = (r : Int) := by rw [Int.tmod_eq_emod_of_nonneg (by omega)]; omega
  have hwr : IntKind.u8.wrap (r : Int) = (r : Int) := by rw [IntKind.wrap_u8]; omega
  have HI := Lib.hid hi
  have HR := Lib.hid hr
  have HP := Lib.hid hp
  clear hi hr hp
  go_enter Tryd.func74, Tryd.ntmps74
  go_wp2
  go_still_tail 12, (by kernel_rfl)
  change wpList _ _ _ _ _ w.drew
  have hsh : IntKind.u64.wrap (2 ^ min r 64) = ((1 <<< r : Nat) : Int) := by
    have h1 : r < 64 := by rw [HR.out]; omega
    rw [Nat.min_eq_left (by omega), Nat.one_shiftLeft]
    have h2 : (2 : Nat) ^ r < 2 ^ 64 := Nat.pow_lt_pow_right (by decide) h1
    rw [IntKind.wrap_u64, show ((2 : Int) ^ r) = ((2 ^ r : Nat) : Int) by push_cast; rfl]
    generalize 2 ^ r = z at *
    omega
  have hor : bits BinOp.or IntKind.u64 ((wd N i : Nat) : Int) ((1 <<< r : Nat) : Int) = ((wd (N ||| 1 <<< b) i : Nat) : Int) := by
    have h1 : r < 64 := by rw [HR.out]; omega
    have h2 : (2 : Nat) ^ r < 2 ^ 64 := Nat.pow_lt_pow_right (by decide) h1
    rw [bits_or_u64_nat _ _ (wd_lt N i) (by rw [Nat.one_shiftLeft]; exact h2), wd_or, wd_one, if_pos HI.out.symm, HR.out]
  have hfin : Blk (w.drew.setCell ⟨p, i, none⟩ (.int .u64 (wd (N ||| 1 <<< b) i : Nat))) p (setC (N ||| 1 <<< b)) 84 := by
    have := HP.out.drew.set i (.int .u64 (wd (N ||| 1 <<< b) i : Nat))
    rw [HI.out] at this ⊢
    rw [setC_add N b hb] at this
    exact this
  have hkp : Kp (fun z => z = p) w (w.drew.setCell ⟨p, i, none⟩ (.int .u64 (wd (N ||| 1 <<< b) i : Nat))) := Kp.set (Kp.of_below (Below.drew (Below.refl _ _))) p i _ (fun _ => rfl)
  generalize w.drew = wd' at *
  rw [← hor, ← hsh] at hfin hkp
  have H1 := Lib.hid hfin
  have H2 := Lib.hid hkp
  clear hfin hkp hsh hor
  go_wp2
  go_end0
  exact ⟨rfl, H1.out, H2.out⟩
end Go.Proofs.YtlocogccjlecjaaDoor
