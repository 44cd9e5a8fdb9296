import Derived.Test.YtobklhnechbpaaaJoinR
import Derived.Test.YtobklhnechbpaaaDecodesW
namespace Go.Proofs.Ytobklhnechbpaaa
open Go.RowKit

set_option maxRecDepth 100000 in
set_option maxHeartbeats 4000000 in
/-- augurref05.Encode -/
theorem refEncode_any (A A' T : Option Addr) (n m t c c' ct : Nat) (bs : List Int) (ps : List (Int × Int)) (x : List Int) (w : World) (hv : Voc w A A' n m bs ps) (hl : x.length = t) (ht : Rd w T (B8 x)) (hs : t ≤ 8388600) :
    Calls Try.prog 27 #[.agg #[.slice A n c, .slice A' m c'], .slice T t ct] w fun e w' => ∃ A2 c2, e = .returned (.tuple #[.slice A2 (encL bs ps x).length c2, .int .i64 (errE bs ps x)]) ∧ Rd w' A2 (I64 (encL bs ps x)) ∧ Below w.heap.size w w' := by
  have h0 : Below w.heap.size w (w.alloc (.cells #[.slice A n c, .slice A' m c'] 25)) := by go_grown
  have q0 := Blk.new w #[.slice A n c, .slice A' m c'] 25
  go_enter Try.func27, Try.ntmps27
  go_wp2_with fail
  refine (refCheck_any A A' n m c c' bs ps _ (hv.below h0)).mono ?_
  rintro e w1 ⟨rfl, hb⟩
  replace q0 := q0.below hb
  replace hb := bthen h0 hb
  clear h0
  cases hq : vocF bs ps with
  | none =>
    have he : errE bs ps x = 50 := by unfold errE; rw [hq]
    have hy : encL bs ps x = [] := by unfold encL; rw [hq]
    have he2 : errV bs ps = 50 := by unfold errV; rw [hq]; rfl
    rw [he2]
    have HR := Lib.hid he
    have HY := Lib.hid hy
    clear he hq hy he2
    go_wp2
    go_returns
    exact ⟨none, 0, by rw [HR.out, HY.out]; rfl, by rw [HY.out]; exact .inl rfl, hb⟩
  | some ls =>
    have hT := toks_of hq
    have h2 := hT.n48
    have h3 := hT.n64
    rw [hv.hn] at h2 h3
    rw [hv.hm] at h3
    have he : errE bs ps x = if x.all (fun b => decide (b ∈ bs)) then 0 else 51 := by unfold errE; rw [hq]
    have hy : encL bs ps x = if x.all (fun b => decide (b ∈ bs)) then joinAll bs.length ps (x.map (baseT bs)) else [] := by unfold encL; rw [hq]
    rw [hv.hn] at hy
    have he2 : errV bs ps = 0 := by unfold errV; rw [hq]; rfl
    rw [he2]
    have HR := Lib.hid he
    have HY := Lib.hid hy
    clear he hq hy he2
    go_wp2
    go_loopw [6, 7] (fun ov i wr => ∃ k : Nat, k ≤ t ∧ i = .int .i64 (k : Int) ∧ (x.take k).all (fun b => decide (b ∈ bs)) = true ∧ wr.ownsRow w.heap.size 3 1 ov k (I64 ((x.take k).map (baseT bs))) ∧ Blk wr w.heap.size #[.slice A n c, .slice A' m c'] 25 ∧ Below w.heap.size w wr) (fun _ i _ => t - (intOf i).toNat)
    case atStart => exact ⟨0, by omega, rfl, rfl, World.ownsRow_nil _ _ _ _, q0, hb⟩
    case round =>
      clear q0 hb
      obtain ⟨k, hk, rfl, hall, oo, q0, hb⟩ := hrel
      obtain ⟨Ao, co, rfl, _, _⟩ := own_rd oo
      have AL := Lib.hid hall
      clear hall
      have x0 : wr.cell? ⟨w.heap.size, 0, none⟩ = some (.slice A n c) := q0.cell _
      have x1 : wr.cell? ⟨w.heap.size, 1, none⟩ = some (.slice A' m c') := q0.cell _
      by_cases hlt : k < t
      · obtain ⟨b, o, rfl, y1⟩ := (ht.below hb).b8 k (by omega)
        have ea := addr_add b o k
        have hkt : (k : Int) < (t : Int) := by omega
        have TK := Lib.hid (List.take_succ_eq_append_getElem (show k < x.length by omega))
        have hmem : x[k]'(by omega) ∈ x := List.getElem_mem _
        generalize x[k]'(by omega) = z at *
        have HM := Lib.hid hmem
        clear hmem
        go_wp2
        go_region_held3 (fun w' => w'.cell? ⟨w.heap.size, 0, none⟩ = some (.slice A n c) ∧ w'.cell? ⟨w.heap.size, 1, none⟩ = some (.slice A' m c') ∧ w'.cell? ⟨b, o + k, none⟩ = some (.int .u8 z))
          (first | exact ⟨‹_›, ‹_›, ‹_›⟩ | exact ‹_›)
          (first | (go_at_call 44; refine (base_any A A' n m c c' bs ps z _ (hv.below (Below.drew hb)) h2).mono ?_; rintro e w2 ⟨rfl, hb2⟩; have q2 := Blk.below (Blk.drew q0) hb2; have z0 : w2.cell? ⟨w.heap.size, 0, none⟩ = some (.slice A n c) := q2.cell _; have z1 : w2.cell? ⟨w.heap.size, 1, none⟩ = some (.slice A' m c') := q2.cell _; have z2 : w2.cell? ⟨b, o + k, none⟩ = some (.int .u8 z) := (hb2.cell (p := ⟨b, o + k, none⟩) (World.block_lt_of_cell? wr _ y1)).trans y1))
        all_goals
          have oo2 := own_below (w := wr.drew) oo hb2
          have hb3 := bthen (Below.drew hb) hb2
          clear z0 z1 z2 x0 x1 y1 oo
          by_cases hin : z ∈ bs
          · have hbt : (baseT bs z == 0) = false := by
              unfold baseT
              rw [if_pos hin, beq_eq_false_iff_ne]
              omega
            have HIN := Lib.hid hin
            clear hin
            generalize hbz : baseT bs z = bz at *
            have HBZ := Lib.hid hbz
            clear hbz
            go_wp2_with (at_builtin; refine app (w0 := w) w.heap.size rfl _ _ 39 3 (.int .i64 0) 1 8 rfl Try.underlying39 info3 rfl (by decide) (by decide) (.slice Ao k co) k (I64 ((x.take k).map (baseT bs))) #[.int .i64 bz] rfl rfl rfl (by simp [Value.oneCell']) oo2 hb3 hb3.size (by omega) ?_; intro g cap w5 ow hb5 hg5 hat5)
            go_roundw
            case rel =>
              refine ⟨k + 1, by omega, by go_num, ?_, ?_, Blk.kept q2 hg5 (Blk.not_row q2 (by decide) oo2), hb5⟩
              · rw [TK.out, List.all_append, AL.out]
                simpa using HIN.out
              · rw [TK.out, List.map_append, List.map_cons, List.map_nil, HBZ.out, ← I64_snoc]
                exact ow
            case measure => simp [intOf]; omega
          · have hbt : baseT bs z = 0 := by
              unfold baseT
              rw [if_neg hin]
            have hno : ¬ (x.all (fun b => decide (b ∈ bs)) = true) := by
              intro h
              have := List.all_eq_true.1 h z HM.out
              exact hin (of_decide_eq_true this)
            have NO := Lib.hid hno
            rw [hbt]
            clear hbt hno hin
            go_wp2
            go_returns
            exact ⟨none, 0, by rw [HR.out, HY.out, if_neg NO.out, if_neg NO.out]; rfl, by rw [HY.out, if_neg NO.out]; exact .inl rfl, hb3⟩
      · obtain rfl : t = k := by omega
        have hall : x.all (fun b => decide (b ∈ bs)) = true := by
          have := AL.out
          rwa [List.take_of_length_le (by omega)] at this
        have hxt : x.take t = x := List.take_of_length_le (by omega)
        rw [hxt] at oo
        have NO := Lib.hid hall
        clear hall hxt AL
        go_wp2_with fail
        refine (joinR_any A A' Ao n m t c c' co bs ps (x.map (baseT bs)) wr (hv.below hb) h2 (by omega) (by simpa using hl) (own_rdA oo) (by omega)).mono ?_
        rintro e w6 ⟨A2, c2, rfl, r2, hb2⟩
        have hb3 := bthen hb hb2
        generalize hJ : joinAll n ps (x.map (baseT bs)) = J at *
        clear hJ
        go_wp2
        go_returns
        exact ⟨A2, c2, by rw [HR.out, HY.out, if_pos NO.out, if_pos NO.out]; rfl, by rw [HY.out, if_pos NO.out]; exact r2, hb3⟩
end Go.Proofs.Ytobklhnechbpaaa
