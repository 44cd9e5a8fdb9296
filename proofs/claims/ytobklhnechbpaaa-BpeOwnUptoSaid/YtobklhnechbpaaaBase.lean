import Derived.Test.YtobklhnechbpaaaStand
namespace Go.Proofs.Ytobklhnechbpaaa
open Go.RowKit

theorem Blk.drewN {w : World} {b n : Nat} {cs : Array Value} {t : TypeId} (h : Blk w b cs t) : Blk (w.drewN n) b cs t := h
theorem idxOf_at {bs : List Int} {b : Int} {k : Nat} (hk : k < bs.length) (h : bs[k] = b) (hno : b ∉ bs.take k) : bs.idxOf b = k := by
  unfold List.idxOf
  rw [List.findIdx_eq hk]
  refine ⟨by simp [h], fun j hj => ?_⟩
  simp only [beq_eq_false_iff_ne]
  rintro rfl
  exact hno (List.mem_take_iff_getElem.2 ⟨j, by omega, rfl⟩)
set_option maxRecDepth 100000 in
set_option maxHeartbeats 2000000 in
/-- augurref05.base -/
theorem base_any (A A' : Option Addr) (n m c c' : Nat) (bs : List Int) (ps : List (Int × Int)) (x : Int) (w : World) (hv : Voc w A A' n m bs ps) (hn8 : n ≤ 48) :
    Calls Try.prog 44 #[.agg #[.slice A n c, .slice A' m c'], .int .u8 x] w fun e w' => e = .returned (.int .i64 (baseT bs x)) ∧ Below w.heap.size w w' := by
  have h0 : Below w.heap.size w (w.alloc (.cells #[.slice A n c, .slice A' m c'] 25)) := by go_grown
  have q0 := Blk.new w #[.slice A n c, .slice A' m c'] 25
  have g := hv.below h0
  have hn := hv.hn
  go_enter Try.func44, Try.ntmps44
  go_wp2
  generalize w.alloc (.cells #[.slice A n c, .slice A' m c'] 25) = w1 at *
  go_loopw [5] (fun i wr => ∃ k : Nat, k ≤ n ∧ i = .int .i64 (k : Int) ∧ x ∉ bs.take k ∧ Below w1.heap.size w1 wr) (fun i _ => n - (intOf i).toNat)
  case atStart => exact ⟨0, by omega, rfl, by simp, Below.refl _ _⟩
  case round =>
    obtain ⟨k, hk, rfl, hno, hb⟩ := hrel
    have NO := Lib.hid hno
    clear hno
    have x0 : wr.cell? ⟨w.heap.size, 0, none⟩ = some (.slice A n c) := (q0.below hb).cell _
    by_cases hlt : k < n
    · obtain ⟨b, o, rfl, y1⟩ := (g.below hb).hx.b8 k (by omega)
      have ea := addr_add b o k
      have TK := Lib.hid (List.take_succ_eq_append_getElem (show k < bs.length by omega))
      have hix := fun (h : bs[k]'(by omega) = x) => idxOf_at (by omega) h NO.out
      have hmem : bs[k]'(by omega) ∈ bs := List.getElem_mem _
      generalize bs[k]'(by omega) = y at *
      by_cases e1 : y = x
      · have hr : baseT bs x = (k : Int) + 1 := by
          unfold baseT
          rw [if_pos (e1 ▸ hmem), hix e1]
        have HR := Lib.hid hr
        subst e1
        clear hr hix hmem
        go_wp2
        go_returns
        exact ⟨by rw [HR.out]; rfl, bthen h0 hb⟩
      · clear hix hmem
        have e2 : (y == x) = false := by simpa using e1
        go_wp2
        go_roundw
        case rel => exact ⟨k + 1, by omega, by go_num, by rw [TK.out]; simp only [List.mem_append, List.mem_singleton, not_or]; exact ⟨NO.out, fun h => e1 h.symm⟩, hb⟩
        case measure => simp [intOf]; omega
    · have hr : baseT bs x = 0 := by
        have := NO.out
        rw [List.take_of_length_le (by omega)] at this
        unfold baseT
        rw [if_neg this]
      have HR := Lib.hid hr
      clear hr
      go_wp2
      go_returns
      exact ⟨by rw [HR.out]; rfl, bthen h0 hb⟩

set_option maxRecDepth 100000 in
set_option maxHeartbeats 4000000 in
/-- augurref05.joined -/
theorem joined_any (A : Option Addr) (n c : Nat) (l : List Int) (pa pb t : Int) (w : World) (hl : l.length = n) (hb0 : n ≤ 8388608) (hx : Rd w A (I64 l)) :
    Calls Try.prog 46 #[.slice A n c, .agg #[.int .i64 pa, .int .i64 pb], .int .i64 t] w fun e w' => ∃ v, e = .returned v ∧ w'.ownsRow w.heap.size 3 1 v (joined (pa, pb) t l).length (I64 (joined (pa, pb) t l)) ∧ Below w.heap.size w w' := by
  have h0 : Below w.heap.size w (w.alloc (.cells #[.int .i64 pa, .int .i64 pb] 51)) := by go_grown
  have q0 := Blk.new w #[.int .i64 pa, .int .i64 pb] 51
  go_enter Try.func46, Try.ntmps46
  go_wp2
  generalize w.alloc (.cells #[.int .i64 pa, .int .i64 pb] 51) = w1 at *
  go_loopw [7, 8] (fun ov i wr => ∃ (k : Nat) (out : List Int), k ≤ n ∧ i = .int .i64 (k : Int) ∧ out ++ joined (pa, pb) t (l.drop k) = joined (pa, pb) t l ∧ out.length ≤ k ∧ wr.ownsRow w.heap.size 3 1 ov out.length (I64 out) ∧ Blk wr w.heap.size #[.int .i64 pa, .int .i64 pb] 51 ∧ Below w.heap.size w wr) (fun _ i _ => n - (intOf i).toNat)
  case atStart => exact ⟨0, [], by omega, rfl, by simp, by simp, World.ownsRow_nil _ _ _ _, q0, h0⟩
  case round =>
    clear q0 h0
    obtain ⟨k, out, hk, rfl, hj, hol, oo, q0, hb⟩ := hrel
    obtain ⟨Ao, co, rfl, _, _⟩ := own_rd oo
    have HJ := Lib.hid hj
    clear hj
    have x0 : wr.cell? ⟨w.heap.size, 0, none⟩ = some (.int .i64 pa) := q0.cell _
    have x1 : wr.cell? ⟨w.heap.size, 1, none⟩ = some (.int .i64 pb) := q0.cell _
    by_cases hlt : k < n
    · obtain ⟨b, o, rfl, y1⟩ := (hx.below hb).i64 k (by omega)
      have ea := addr_add b o k
      have hb3 : (k : Int) < (n : Int) := by omega
      have hjn := fun h => joined_not (p := (pa, pb)) (t := t) (show k < l.length by omega) h
      have hja := fun h => joined_at (p := (pa, pb)) (t := t) (l := l) (i := k) h
      by_cases h2 : k + 1 < n
      · obtain ⟨b', o', he, y2⟩ := (hx.below hb).i64 (k + 1) (by omega)
        obtain ⟨rfl, rfl⟩ : b = b' ∧ o = o' := by simpa using he
        clear he
        have ea2 := addr_add b o (k + 1)
        have hb1 : (k : Int) + 1 < (n : Int) := by omega
        have hb2 : 0 ≤ (k : Int) + 1 := by omega
        have hi1 : ((k : Int) + 1).toNat = k + 1 := by omega
        have hat := atP_of (p := (pa, pb)) (show k < l.length by omega) (show k + 1 < l.length by omega)
        generalize l[k]'(by omega) = x at *
        generalize l[k + 1]'(by omega) = y at *
        by_cases e1 : x = pa
        · by_cases e2 : y = pb
          · have hs := hja (by rw [hat]; simp [e1, e2])
            have HS := Lib.hid hs
            clear hs hja hjn hat
            subst e1 e2
            go_wp2
            go_quiet (fail)
            all_goals go_wp2_with (at_builtin; refine app (w0 := w) w.heap.size rfl _ _ 39 3 (.int .i64 0) 1 8 rfl Try.underlying39 info3 rfl (by decide) (by decide) (.slice Ao out.length co) out.length (I64 out) #[.int .i64 t] rfl rfl rfl (by simp [Value.oneCell']) oo (bdraw hb _) hb.size (by omega) ?_; intro g cap w5 ow hb5 hg5 hat5)
            go_roundw
            case rel =>
              refine ⟨k + 2, out ++ [t], by omega, by go_num, by rw [← HJ.out, HS.out, List.append_assoc]; rfl, by simp; omega, ?_, Blk.kept (Blk.drewN q0) hg5 (Blk.not_row q0 (by decide) oo), hb5⟩
              rw [List.length_append, ← I64_snoc]
              exact ow
            case measure => simp [intOf]; omega
          · have hs := hjn (by rw [hat]; simp [e2])
            have HS := Lib.hid hs
            have e2' : (y == pb) = false := by simpa using e2
            clear hs hja hjn hat
            subst e1
            go_wp2
            go_quiet (fail)
            all_goals go_wp2_with (at_builtin; refine app (w0 := w) w.heap.size rfl _ _ 39 3 (.int .i64 0) 1 8 rfl Try.underlying39 info3 rfl (by decide) (by decide) (.slice Ao out.length co) out.length (I64 out) #[.int .i64 x] rfl rfl rfl (by simp [Value.oneCell']) oo (bdraw hb _) hb.size (by omega) ?_; intro g cap w5 ow hb5 hg5 hat5)
            go_roundw
            case rel =>
              refine ⟨k + 1, out ++ [x], by omega, by go_num, by rw [← HJ.out, HS.out, List.append_assoc]; rfl, by simp; omega, ?_, Blk.kept (Blk.drewN q0) hg5 (Blk.not_row q0 (by decide) oo), hb5⟩
              rw [List.length_append, ← I64_snoc]
              exact ow
            case measure => simp [intOf]; omega
        · have hs := hjn (by rw [hat]; simp [e1])
          have HS := Lib.hid hs
          have e1' : (x == pa) = false := by simpa using e1
          clear hs hja hjn hat
          go_wp2
          go_quiet (fail)
          all_goals go_wp2_with (at_builtin; refine app (w0 := w) w.heap.size rfl _ _ 39 3 (.int .i64 0) 1 8 rfl Try.underlying39 info3 rfl (by decide) (by decide) (.slice Ao out.length co) out.length (I64 out) #[.int .i64 x] rfl rfl rfl (by simp [Value.oneCell']) oo (bdraw hb _) hb.size (by omega) ?_; intro g cap w5 ow hb5 hg5 hat5)
          go_roundw
          case rel =>
            refine ⟨k + 1, out ++ [x], by omega, by go_num, by rw [← HJ.out, HS.out, List.append_assoc]; rfl, by simp; omega, ?_, Blk.kept (Blk.drewN q0) hg5 (Blk.not_row q0 (by decide) oo), hb5⟩
            rw [List.length_append, ← I64_snoc]
            exact ow
          case measure => simp [intOf]; omega
      · have hs := hjn (by unfold atP; rw [decide_eq_false_iff_not]; rintro ⟨_, h⟩; have := (List.getElem?_eq_some_iff.1 h).1; omega)
        have hb1 : decide ((k : Int) + 1 < (n : Int)) = false := by rw [decide_eq_false_iff_not]; omega
        have hb2 : 0 ≤ (k : Int) + 1 := by omega
        have hwk : IntKind.i64.wrap ((k : Int) + 1) = (k : Int) + 1 := IntWalk.i64_in _ (by omega)
        have HS := Lib.hid hs
        generalize l[k]'(by omega) = x at *
        clear hs hja hjn
        go_wp2
        go_quiet (fail)
        all_goals go_wp2_with (at_builtin; refine app (w0 := w) w.heap.size rfl _ _ 39 3 (.int .i64 0) 1 8 rfl Try.underlying39 info3 rfl (by decide) (by decide) (.slice Ao out.length co) out.length (I64 out) #[.int .i64 x] rfl rfl rfl (by simp [Value.oneCell']) oo (bdraw hb _) hb.size (by omega) ?_; intro g cap w5 ow hb5 hg5 hat5)
        go_roundw
        case rel =>
          refine ⟨k + 1, out ++ [x], by omega, by go_num, by rw [← HJ.out, HS.out, List.append_assoc]; rfl, by simp; omega, ?_, Blk.kept (Blk.drewN q0) hg5 (Blk.not_row q0 (by decide) oo), hb5⟩
          rw [List.length_append, ← I64_snoc]
          exact ow
        case measure => simp [intOf]; omega
    · obtain rfl : n = k := by omega
      have hr : out = joined (pa, pb) t l := by
        have := HJ.out
        rw [List.drop_of_length_le (by omega)] at this
        simpa [joined] using this
      have HR := Lib.hid hr
      clear hr
      go_wp2
      go_returns
      exact ⟨_, rfl, by rw [← HR.out]; exact oo, hb⟩
end Go.Proofs.Ytobklhnechbpaaa
