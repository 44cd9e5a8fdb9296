import Derived.Test.YtobklhnechbpaaaRoundP
import Derived.Laws.IdiomStrings
import Derived.Lib.SlBytesConst
namespace Go.Proofs.Ytobklhnechbpaaa
open Go.RowKit

def abcB : List Int := [97, 98, 99]
def abcP : List (Int × Int) := [(1, 2), (4, 3), (1, 1)]
theorem Blk.rd {w : World} {g : Nat} {arr : Array Value} {t : TypeId} {xs : List Value} (h : Blk w g arr t) (he : arr.toList = xs) : Rd w (some ⟨g, 0, none⟩) xs := by
  refine .inr ⟨g, 0, rfl, fun i _ => ?_⟩
  rw [Nat.zero_add, h.cell, ← he]
  simp
theorem rd_marked (w : World) (C : Array Value) (e : TypeId) (fr : Nat × Nat) : Rd (w.alloc (.cells C e fr)) (some ⟨w.heap.size, 0, none⟩) C.toList := by
  refine .inr ⟨w.heap.size, 0, rfl, fun i _ => ?_⟩
  have hh : (w.alloc (.cells C e fr)).heap[w.heap.size]? = some (.cells C e fr) := (MapKept.heap_alloc w _).1
  rw [Nat.zero_add]
  generalize w.alloc (.cells C e fr) = W at hh
  simp [World.cell?, hh]
set_option maxRecDepth 100000 in
set_option maxHeartbeats 1000000 in
/-- abc -/
theorem abc_any (w : World) : Calls Try.prog 45 #[] w fun e w' => ∃ g h, e = .returned (.agg #[.slice (some ⟨g, 0, none⟩) 3 3, .slice (some ⟨h, 0, none⟩) 3 3]) ∧ Voc w' (some ⟨g, 0, none⟩) (some ⟨h, 0, none⟩) 3 3 abcB abcP ∧ Below w.heap.size w w' := by
  have hcc := Lib.run_convert_bytes_const (P := Try.prog) (w.alloc (.cells #[.slice none 0 0, .slice none 0 0] 25)) 22 5 #[.int .u8 97, .int .u8 98, .int .u8 99] 3 3 Try.underlying22 Try.underlying5
  rw [show (w.alloc (.cells #[.slice none 0 0, .slice none 0 0] 25)).heap.size = w.heap.size + 1 by simp] at hcc
  go_enter Try.func45, Try.ntmps45
  go_wp2
  have q0 : Blk (((w.alloc (.cells #[.slice (some ⟨w.heap.size + 1, 0, none⟩) 3 3, .slice (some ⟨w.heap.size + 1 + 1, 0, none⟩) 3 3] 25)).alloc (.cells #[.int .u8 97, .int .u8 98, .int .u8 99] 5 (3, 4))).alloc (.cells #[.int .i64 1, .int .i64 2, .int .i64 4, .int .i64 3, .int .i64 1, .int .i64 1] 51)) w.heap.size #[.slice (some ⟨w.heap.size + 1, 0, none⟩) 3 3, .slice (some ⟨w.heap.size + 1 + 1, 0, none⟩) 3 3] 25 := ((Blk.new w _ 25).alloc _).alloc _
  have q1 : Rd (((w.alloc (.cells #[.slice (some ⟨w.heap.size + 1, 0, none⟩) 3 3, .slice (some ⟨w.heap.size + 1 + 1, 0, none⟩) 3 3] 25)).alloc (.cells #[.int .u8 97, .int .u8 98, .int .u8 99] 5 (3, 4))).alloc (.cells #[.int .i64 1, .int .i64 2, .int .i64 4, .int .i64 3, .int .i64 1, .int .i64 1] 51)) (some ⟨w.heap.size + 1, 0, none⟩) (B8 abcB) := by
    have := rd_marked (w.alloc (.cells #[.slice (some ⟨w.heap.size + 1, 0, none⟩) 3 3, .slice (some ⟨w.heap.size + 1 + 1, 0, none⟩) 3 3] 25)) #[.int .u8 97, .int .u8 98, .int .u8 99] 5 (3, 4)
    rw [show (w.alloc (.cells #[.slice (some ⟨w.heap.size + 1, 0, none⟩) 3 3, .slice (some ⟨w.heap.size + 1 + 1, 0, none⟩) 3 3] 25)).heap.size = w.heap.size + 1 by simp] at this
    exact this.below (by go_grown)
  have q2 : Blk (((w.alloc (.cells #[.slice (some ⟨w.heap.size + 1, 0, none⟩) 3 3, .slice (some ⟨w.heap.size + 1 + 1, 0, none⟩) 3 3] 25)).alloc (.cells #[.int .u8 97, .int .u8 98, .int .u8 99] 5 (3, 4))).alloc (.cells #[.int .i64 1, .int .i64 2, .int .i64 4, .int .i64 3, .int .i64 1, .int .i64 1] 51)) (w.heap.size + 1 + 1) #[.int .i64 1, .int .i64 2, .int .i64 4, .int .i64 3, .int .i64 1, .int .i64 1] 51 := by
    have := Blk.new ((w.alloc (.cells #[.slice (some ⟨w.heap.size + 1, 0, none⟩) 3 3, .slice (some ⟨w.heap.size + 1 + 1, 0, none⟩) 3 3] 25)).alloc (.cells #[.int .u8 97, .int .u8 98, .int .u8 99] 5 (3, 4))) #[.int .i64 1, .int .i64 2, .int .i64 4, .int .i64 3, .int .i64 1, .int .i64 1] 51
    simpa using this
  refine bodyPost_ret (results_cell_row rfl _ _ w.heap.size 25 #[.slice (some ⟨w.heap.size + 1, 0, none⟩) 3 3, .slice (some ⟨w.heap.size + 1 + 1, 0, none⟩) 3 3] (0, 0) _ rfl q0 Try.underlying25 rfl (by kernel_rfl)) rfl ⟨_, _, rfl, ⟨rfl, rfl, by decide, by decide, q1, q2.rd rfl⟩, by go_grown⟩

theorem lives1 : encL abcB abcP [97, 98, 99, 97, 98] = [5, 4] ∧ errE abcB abcP [97, 98, 99, 97, 98] = 0 := by
  refine ⟨?_, by decide⟩
  have h1 : ∃ ls, vocF abcB abcP = some ls := ⟨_, rfl⟩
  obtain ⟨ls, h1⟩ := h1
  unfold encL
  rw [h1]
  simp only
  rw [if_pos (by decide), show [97, 98, 99, 97, 98].map (baseT abcB) = [1, 2, 3, 1, 2] by decide]
  rw [joinAll_step (j := 0) (by decide) (by decide), show joined abcP[0] ((1 + abcB.length + 0 : Nat) : Int) [1, 2, 3, 1, 2] = [4, 3, 4] by decide]
  rw [joinAll_step (j := 1) (by decide) (by decide), show joined abcP[1] ((1 + abcB.length + 1 : Nat) : Int) [4, 3, 4] = [5, 4] by decide]
  exact joinAll_none (by decide)
theorem lives2 : bytD abcB abcP [5, 4] = [97, 98, 99, 97, 98] ∧ errD abcB abcP [5, 4] = 0 := by decide
theorem abc_wf : Wf abcB abcP := ⟨by decide, by decide⟩

set_option maxRecDepth 100000 in
set_option maxHeartbeats 2000000 in
/-- lives -/
theorem lives_any (w : World) : Calls Try.prog 28 #[] w fun e w' => e = .returned (.bool true) ∧ Below w.heap.size w w' := by
  go_enter Try.func28, Try.ntmps28
  go_wp2_with fail
  refine (abc_any w).mono ?_
  rintro e w1 ⟨g, h, rfl, hv, hb⟩
  have hcc := Lib.run_convert_bytes_const (P := Try.prog) w1 22 5 #[.int .u8 97, .int .u8 98, .int .u8 99, .int .u8 97, .int .u8 98] 5 5 Try.underlying22 Try.underlying5
  have hm : Below w1.heap.size w1 (w1.alloc (.cells #[.int .u8 97, .int .u8 98, .int .u8 99, .int .u8 97, .int .u8 98] 5 (5, 6))) := by go_grown
  have rx := rd_marked w1 #[.int .u8 97, .int .u8 98, .int .u8 99, .int .u8 97, .int .u8 98] 5 (5, 6)
  go_wp2_with fail
  refine (encode_any _ _ _ 3 3 5 3 3 5 abcB abcP [97, 98, 99, 97, 98] _ (hv.below hm) abc_wf rfl rx (by decide) (by omega)).mono ?_
  rintro e w2 ⟨v, rfl, ov, hb2⟩
  rw [lives1.2]
  rw [lives1.1] at ov
  obtain ⟨lA, lc, rfl, _, _⟩ := own_rd ov
  have rl := own_rdA ov
  replace hb := bthen (bthen hb hm) hb2
  clear hcc hm rx ov hb2 hv
  go_wp2_with fail
  refine (abc_any w2).mono ?_
  rintro e w3 ⟨g, h, rfl, hv, hb2⟩
  have hm : Below w3.heap.size w3 (w3.alloc (.cells #[.int .i64 5, .int .i64 4] 3)) := by go_grown
  have rx : Rd (w3.alloc (.cells #[.int .i64 5, .int .i64 4] 3)) (some ⟨w3.heap.size, 0, none⟩) (I64 [5, 4]) := (Blk.new w3 #[.int .i64 5, .int .i64 4] 3).rd rfl
  replace rl := (rl.below hb2).below hm
  go_wp2_with fail
  refine (decode_any _ _ _ 3 3 2 3 3 2 abcB abcP [5, 4] _ (hv.below hm) abc_wf rfl rx (by omega)).mono ?_
  rintro e w4 ⟨v, rfl, ov, hb3⟩
  rw [lives2.2]
  rw [lives2.1] at ov
  obtain ⟨bA, bc, rfl, _, _⟩ := own_rd ov
  have rb := own_rdA ov
  replace rl := rl.below hb3
  replace hb := bthen (bthen (bthen hb hb2) hm) hb3
  clear hm rx ov hb2 hv hb3
  have hm : Below w4.heap.size w4 (w4.alloc (.cells #[.int .i64 5, .int .i64 4] 3)) := by go_grown
  have rx : Rd (w4.alloc (.cells #[.int .i64 5, .int .i64 4] 3)) (some ⟨w4.heap.size, 0, none⟩) (I64 [5, 4]) := (Blk.new w4 #[.int .i64 5, .int .i64 4] 3).rd rfl
  go_wp2_with fail
  refine (eqInts_any _ _ 2 2 lc 2 [5, 4] [5, 4] rfl rfl (by omega) _ (rl.below hm) rx).mono ?_
  rintro e w5 ⟨rfl, hb3⟩
  rw [decide_eq_true rfl]
  replace rb := (rb.below hm).below hb3
  replace hb := bthen (bthen hb hm) hb3
  have hcv : (convert 22 9 (.slice bA 5 bc)).run Try.prog w5 = .ok (.string ⟨#[97, 98, 99, 97, 98]⟩) w5 := by
    obtain ⟨b, o, rfl, _⟩ := rb.b8 0 (by decide)
    refine run_convert_bytes_back (P := Try.prog) w5 22 9 5 ⟨b, o, none⟩ bc [97, 98, 99, 97, 98] Try.underlying22 Try.underlying5 Try.underlying9 (fun j hj => ?_)
    obtain ⟨b', o', he, h⟩ := rb.b8 j (by simpa using hj)
    injection he with he
    injection he with h1 h2
    subst h1 h2
    rw [addr_add, h]
    have : j = 0 ∨ j = 1 ∨ j = 2 ∨ j = 3 ∨ j = 4 := by simp at hj; omega
    rcases this with rfl | rfl | rfl | rfl | rfl <;> rfl
  clear rl rx hm hb3 rb
  go_wp2
  go_returns
  exact ⟨rfl, hb⟩

set_option maxRecDepth 100000 in
set_option maxHeartbeats 2000000 in
/-- strange -/
theorem strange_any (A A' T : Option Addr) (n m t c c' ct : Nat) (bs : List Int) (ps : List (Int × Int)) (x : List Int) (w : World) (hv : Voc w A A' n m bs ps) (hl : x.length = t) (ht : Rd w T (B8 x)) (hs : t ≤ 8388600) (hn : n ≤ 140737488355328) :
    Calls Try.prog 30 #[.agg #[.slice A n c, .slice A' m c'], .slice T t ct] w fun e w' => e = .returned (.bool (!(x.all (fun b => decide (b ∈ bs))))) ∧ Below w.heap.size w w' := by
  have h0 : Below w.heap.size w (w.alloc (.cells #[.slice A n c, .slice A' m c'] 25)) := by go_grown
  have q0 := Blk.new w #[.slice A n c, .slice A' m c'] 25
  go_enter Try.func30, Try.ntmps30
  go_wp2
  generalize w.alloc (.cells #[.slice A n c, .slice A' m c'] 25) = w1 at *
  go_loopw [5, 6, 7] (fun i _ _ wr => ∃ k : Nat, k ≤ t ∧ i = .int .i64 (k : Int) ∧ (x.take k).all (fun b => decide (b ∈ bs)) = true ∧ Blk wr w.heap.size #[.slice A n c, .slice A' m c'] 25 ∧ Below w.heap.size w wr) (fun i _ _ _ => t - (intOf i).toNat)
  case atStart => exact ⟨0, by omega, rfl, rfl, q0, h0⟩
  case round =>
    clear q0 h0
    obtain ⟨k, hk, rfl, hall, q0, hb⟩ := hrel
    have AL := Lib.hid hall
    clear hall
    by_cases hlt : k < t
    · have HZ := Lib.hid (fun (u : World) (h : Below w.heap.size w u) => (ht.below h).b8 k (by omega))
      have TK := Lib.hid (List.take_succ_eq_append_getElem (show k < x.length by omega))
      have hmem : x[k]'(by omega) ∈ x := List.getElem_mem _
      generalize x[k]'(by omega) = z at *
      have HM := Lib.hid hmem
      have hkt : (k : Int) < (t : Int) := by omega
      clear hmem
      go_wp2
      go_loopw [6, 7] (fun f j wr => ∃ q : Nat, q ≤ n ∧ j = .int .i64 (q : Int) ∧ f = .bool (decide (z ∈ bs.take q)) ∧ Blk wr w.heap.size #[.slice A n c, .slice A' m c'] 25 ∧ Below w.heap.size w wr) (fun _ j _ => n - (intOf j).toNat)
      case atStart => exact ⟨0, by omega, rfl, by simp, q0, hb⟩
      case round =>
        clear q0 hb
        obtain ⟨q, hq, rfl, rfl, q0, hb⟩ := hrel
        have x0 : wr.cell? ⟨w.heap.size, 0, none⟩ = some (.slice A n c) := q0.cell _
        by_cases hlq : q < n
        · obtain ⟨b1, o1, rfl, y1⟩ := (hv.below hb).hx.b8 q (by have := hv.hn; omega)
          obtain ⟨b2, o2, rfl, y2⟩ := HZ.out _ hb
          have e1 := addr_add b1 o1 q
          have e2 := addr_add b2 o2 k
          have T2 := Lib.hid (List.take_succ_eq_append_getElem (show q < bs.length by have := hv.hn; omega))
          generalize bs[q]'(by have := hv.hn; omega) = a at *
          have hqn : (q : Int) < (n : Int) := by omega
          by_cases he : a = z
          · subst he
            go_wp2
            go_quiet (fail)
            all_goals go_wp2
            go_roundw
            case rel => exact ⟨q + 1, by omega, by go_num, by rw [T2.out]; simp, q0.drew, bdraw hb _⟩
            case measure => simp [intOf]; omega
          · have hne : (a == z) = false := by simpa using he
            have HE := Lib.hid he
            clear he
            go_wp2
            go_quiet (fail)
            all_goals go_wp2
            go_roundw
            case rel => exact ⟨q + 1, by omega, by go_num, by rw [T2.out]; simp only [List.mem_append, List.mem_singleton, show ¬ z = a from fun h => HE.out h.symm, or_false], q0.drew, bdraw hb _⟩
            case measure => simp [intOf]; omega
        · have hfull : bs.take q = bs := List.take_of_length_le (by have := hv.hn; omega)
          rw [hfull]
          by_cases hin : z ∈ bs
          · have HIN := Lib.hid hin
            rw [decide_eq_true hin]
            clear hin
            go_wp2
            go_roundw
            case rel => exact ⟨k + 1, by omega, by go_num, by rw [TK.out, List.all_append, AL.out]; simpa using HIN.out, q0, hb⟩
            case measure => simp [intOf]; omega
          · have hno : x.all (fun b => decide (b ∈ bs)) = false := by
              cases hq : x.all (fun b => decide (b ∈ bs)) with
              | false => rfl
              | true => exact absurd (of_decide_eq_true (List.all_eq_true.1 hq z HM.out)) hin
            have NO := Lib.hid hno
            rw [decide_eq_false hin]
            clear hin hno
            go_wp2
            go_returns
            exact ⟨by rw [NO.out]; rfl, hb⟩
    · have hall : x.all (fun b => decide (b ∈ bs)) = true := by
        have := AL.out
        rwa [List.take_of_length_le (by omega)] at this
      have NO := Lib.hid hall
      clear hall
      go_wp2
      go_returns
      exact ⟨by rw [NO.out]; rfl, hb⟩
end Go.Proofs.Ytobklhnechbpaaa
