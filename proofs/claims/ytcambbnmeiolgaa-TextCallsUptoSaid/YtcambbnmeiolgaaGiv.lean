import Derived.Test.YtcambbnmeiolgaaWai
import Derived.Deep.RegionLaw
import Derived.Lib.AppendStr
namespace Go.Proofs.Ytcambbnmeiolgaa
open Go.RowKit

/-- bytes as numbers -/
def bI (l : List UInt8) : List Int := l.map fun b => (b.toNat : Int)
theorem bI_length (l : List UInt8) : (bI l).length = l.length := by simp [bI]
theorem bI_append (l m : List UInt8) : bI (l ++ m) = bI l ++ bI m := by simp [bI]
theorem strCells_B8 (s : ByteArray) : Lib.strCells s = B8 (bI (lst s)) := by simp [Lib.strCells, B8, bI, lst]
theorem grown_step {w wr w1 : World} {r r1 : Option Nat} (h : w.grownBy wr r) (h1 : wr.grownBy w1 r1) (hr : r1 = r ∨ ∀ g, r1 = some g → w.heap.size ≤ g) : w.grownBy w1 r := by
  refine ⟨h1.os.trans h.os, h1.tape.trans h.tape, h1.output.trans h.output, Nat.le_trans h.size h1.size, fun k hk hne => ?_⟩
  refine (h1.block k (Nat.lt_of_lt_of_le hk h.size) (fun he => ?_)).trans (h.block k hk hne)
  rcases hr with hr | hr
  · exact hne (he.trans hr)
  · have := hr k he.symm
    omega
theorem grown_set (w : World) (g i : Nat) (v : Value) : w.grownBy (w.setCell ⟨g, i, none⟩ v) (some g) :=
  ⟨rfl, rfl, rfl, by simp, fun k _ hk => Below.heap_setCell _ ⟨g, i, none⟩ _ k (fun e => hk (by rw [e]))⟩
theorem grown_below {w wr w1 : World} {r : Option Nat} (h : w.grownBy wr r) (hb : Below wr.heap.size wr w1) : w.grownBy w1 r :=
  grown_step h (r1 := none) ⟨hb.os, hb.tape, hb.output, hb.size, fun i hi _ => hb.block i hi⟩ (.inr (by simp))
theorem grown_drew {w wr : World} {r : Option Nat} (h : w.grownBy wr r) (n : Nat) : w.grownBy (wr.drewN n) r := ⟨h.os, h.tape, h.output, h.size, h.block⟩

section
variable {P : Program} {ops : Array Oper} {o : Oper} {a : Act} {Q : Exit → Act → World → Prop} {K : Act → World → Prop} {E : Prop}
/-- append(v, s...) onto bytes of the call's own, s a string: as one step of a region that draws. -/
theorem appStrStep {W : World} (base : Nat) (hgd : o.guard = none) (s x : Operand) (t u : TypeId)
    (ho : o.op = .call { callee := .builtin .append, args := #[s, x], argTypes := #[t, u] })
    (ht : P.underlying t = some (.slice 5)) (hu : P.underlying u = some .string) (hinfo : (P.info? 5).map (fun i => (i.zero, i.size, i.bytes)) = some (some (.int .u8 0), 1, 1))
    (v : Value) (n : Nat) (xs : List Value) (T : ByteArray) (hs : a.eval s = v) (hx : a.eval x = .string T)
    (HO : W.ownsRow base 5 1 v n xs) (hbase : base ≤ W.heap.size) (hle : n + T.size ≤ 140737488355328)
    (h : ∀ v1 w1, w1.ownsRow base 5 1 v1 (n + T.size) (xs ++ Lib.strCells T) → W.grownBy w1 v.ownBlock → K (a.put o.dst v1) w1) :
    if Region.wanted o (yielded ops a.tmps) = true then Oper.wp P o a W K Q else E := by
  obtain ⟨i0, hi, hzz⟩ := Option.map_eq_some_iff.1 hinfo
  simp only [Prod.mk.injEq] at hzz
  obtain ⟨hz0, hz1, hz2⟩ := hzz
  obtain ⟨v1, w1, hr, h2, h3, _⟩ := Lib.run_append_own_string (P := P) W base t u o.type 5 i0 ht hu hi hz0 hz1 hz2 v n xs HO T (by simp only [maxLen]; omega) hle hbase
  have hw : Region.wanted o (yielded ops a.tmps) = true := by simp [Region.wanted, hgd]
  rw [if_pos hw]
  unfold Oper.wp execOp
  simp only [ho, resolve, invoke, builtin, Sem.run_bind, Sem.run_pure, Result.andThen_ok, List.map_toArray, List.map_cons, List.map_nil, hs, hx, hr]
  exact h v1 w1 h2 h3
end

/-- what give leaves -/
def GiveOut (w0 : World) (p : Nat) (wv sv : Value) (T : ByteArray) (e : Bool) (o : List Int) (n : Nat) (en : Ending) (w' : World) : Prop :=
  en = .returned (.tuple #[]) ∧ ∃ ov' T', lst T' = (lst T).drop n ∧ Blk w' p (SC wv sv T' ov' e) 85 ∧ w'.ownsRow w0.heap.size 5 1 ov' (o ++ bI ((lst T).take n)).length (B8 (o ++ bI ((lst T).take n))) ∧ w0.grownBy w' (some p)

set_option maxRecDepth 100000 in
set_option maxHeartbeats 2000000 in
/-- give -/
theorem give_any (p : Nat) (wv sv ov : Value) (T : ByteArray) (e : Bool) (o : List Int) (n : Nat) (w0 w : World) (hb0 : Blk w p (SC wv sv T ov e) 85) (ho : w.ownsRow w0.heap.size 5 1 ov o.length (B8 o)) (hg : w0.grownBy w (some p)) (hn : n ≤ T.size) (hT : T.size ≤ 100000) (hle : o.length + T.size ≤ 140737488355328) :
    Calls Try.prog 57 #[.pointer (some ⟨p, 0, none⟩), .int .i64 (n : Int)] w (GiveOut w0 p wv sv T e o n) := by
  have x2 : w.cell? ⟨p, 2, none⟩ = some (.string T) := hb0.cell _
  have x3 : w.cell? ⟨p, 3, none⟩ = some ov := hb0.cell _
  have a2 : (⟨p, 0, none⟩ : Addr).add 2 = ⟨p, 2, none⟩ := by simpa using addr_add p 0 2
  have a3 : (⟨p, 0, none⟩ : Addr).add 3 = ⟨p, 3, none⟩ := by simpa using addr_add p 0 3
  have n1 : (n : Int) ≤ (T.size : Int) := by omega
  have n2 : (n : Int) ≤ 100000 := by omega
  have hne := hb0.not_row (by decide) ho
  have es : (T.extract 0 n).size = n := by rw [← lst_length, lst_take, List.length_take, lst_length]; omega
  have hoD : w.drew.ownsRow w0.heap.size 5 1 ov o.length (B8 o) := ho
  have hbD : Blk w.drew p (SC wv sv T ov e) 85 := hb0
  go_enter Try.func57, Try.ntmps57
  go_wp2
  go_region_law ((refine appStrStep w0.heap.size rfl _ _ 34 9 rfl Try.underlying34 Try.underlying9 info5 ov o.length (B8 o) (T.extract 0 n) rfl rfl hoD hg.size (by omega) ?_; intro v1 w1 ho1 hg1; have b1 := hbD.kept hg1 hne; have y3 : w1.cell? ⟨p, 3, none⟩ = some ov := b1.cell _; have z3 := b1.frozen 3; obtain ⟨A1, c1, rfl, _, _⟩ := own_rd ho1))
  all_goals
    have b2 : Blk (w1.setCell ⟨p, 3, none⟩ (.slice A1 (o.length + (T.extract 0 n).size) c1)) p (SC wv sv T (.slice A1 (o.length + (T.extract 0 n).size) c1) e) 85 := b1.set 3 _
    have o2 := own_set_other ho1 p 3 (.slice A1 (o.length + (T.extract 0 n).size) c1) (b1.not_row (by decide) ho1)
    have hgd : ∀ g, ov.ownBlock = some g → w0.heap.size ≤ g := fun g h => (own_lt ho g h).1
    have hgW : w0.grownBy w.drew (some p) := ⟨hg.os, hg.tape, hg.output, hg.size, hg.block⟩
    have g2 := grown_step (grown_step hgW hg1 (.inr hgd)) (grown_set w1 p 3 (.slice A1 (o.length + (T.extract 0 n).size) c1)) (.inl rfl)
    clear y3 z3 b1 hg1 ho1 hbD hoD x2 x3
    rw [es] at b2 o2 g2
    generalize w1.setCell ⟨p, 3, none⟩ (.slice A1 (o.length + n) c1) = w2 at *
    have y2 : w2.cell? ⟨p, 2, none⟩ = some (.string T) := b2.cell _
    have z2 := b2.frozen 2
    have GO : ∀ w3 T', w3 = w2.setCell ⟨p, 2, none⟩ (.string T') → lst T' = (lst T).drop n → GiveOut w0 p wv sv T e o n (.returned (.tuple #[])) w3 := fun w3 T' h hl => by
      subst h
      refine ⟨rfl, .slice A1 (o.length + n) c1, T', hl, b2.set 2 _, ?_, grown_step g2 (grown_set _ _ _ _) (.inl rfl)⟩
      have := own_set_other o2 p 2 (.string T') (b2.not_row (by decide) o2)
      rw [strCells_B8, ← B8_append, lst_take] at this
      have hl2 : (o ++ bI ((lst T).take n)).length = o.length + n := by
        rw [List.length_append, bI_length, List.length_take, lst_length]; omega
      rw [hl2]
      exact this
    replace GO := Lib.hid GO
    have LD := Lib.hid (lst_drop T n)
    clear b2 o2 g2 hgW hg ho hb0 hgd
    go_wp2
    go_end0
    exact GO.out _ _ rfl LD.out
end Go.Proofs.Ytcambbnmeiolgaa
