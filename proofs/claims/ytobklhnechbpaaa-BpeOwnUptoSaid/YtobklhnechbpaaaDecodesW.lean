import Derived.Test.YtobklhnechbpaaaRDec
namespace Go.Proofs.Ytobklhnechbpaaa
open Go.RowKit

theorem bytD_small (bs : List Int) (ps : List (Int × Int)) (l : List Int) : (bytD bs ps l).length ≤ 16 * l.length := by
  unfold bytD
  split
  · simp
  · rename_i ls hq
    split
    · exact flat_small (toks_of hq) l
    · simp

set_option maxRecDepth 100000 in
set_option maxHeartbeats 4000000 in
theorem decodesW_any (A A' T : Option Addr) (n m t c c' ct : Nat) (bs : List Int) (ps : List (Int × Int)) (l : List Int) (w : World) (hv : Voc w A A' n m bs ps) (hwf : Wf bs ps) (k1 : n * 1 ≤ 140737488355320) (k2 : m * 16 ≤ 140737488355312) (hl : l.length = t) (ht : Rd w T (I64 l)) (hs : t ≤ 8388600) :
    Calls Try.prog 6 #[.agg #[.slice A n c, .slice A' m c'], .slice T t ct] w fun e w' => e = .returned (.bool true) ∧ Below w.heap.size w w' := by
  have h0 : Below w.heap.size w (w.alloc (.cells #[.slice A n c, .slice A' m c'] 25)) := by go_grown
  have q0 := Blk.new w #[.slice A n c, .slice A' m c'] 25
  go_enter Try.func6, Try.ntmps6
  go_wp2_with fail
  refine (twin_any A A' n m c c' bs ps _ (hv.below h0) k1 k2).mono ?_
  rintro e w1 ⟨g, h, vc, uc, rfl, tw, _, _, hb⟩
  replace q0 := q0.below hb
  replace h0 := bthen h0 hb
  clear hb
  have h1 : Below w1.heap.size w1 (w1.alloc (.cells #[.slice (some ⟨g, 0, none⟩) n vc, .slice (some ⟨h, 0, none⟩) m uc] 25)) := by go_grown
  go_wp2_with fail
  have hv1 := (tw.below h1)
  have q1 := q0.below h1
  have q2 := Blk.new w1 #[.slice (some ⟨g, 0, none⟩) n vc, .slice (some ⟨h, 0, none⟩) m uc] 25
  replace h0 := bthen h0 h1
  clear q0 h1 tw
  generalize w1.heap.size = N at *
  generalize w1.alloc _ = w2 at *
  refine (copyInts_any T t ct l hl (by omega) w2 (ht.below h0)).mono ?_
  rintro e w3 ⟨v, rfl, ov, hb⟩
  obtain ⟨va, vcp, rfl, _, _⟩ := own_rd ov
  go_wp2_with (at_builtin; refine appM (w0 := w2) w2.heap.size rfl _ _ 39 3 (.int .i64 0) 1 8 2 rfl Try.underlying39 info3 rfl (by decide) (by decide) (by decide) (.slice va t vcp) t (I64 l) #[.int .i64 (-91), .int .i64 (-92)] rfl rfl rfl (by simp [Value.oneCell']) ov hb hb.size (by omega) ?_; intro g2 cap2 w4 o4 hb4 hg4 hat4 hc4)
  clear hb ov hg4 hat4
  have o5 : w4.ownsRow w2.heap.size 3 1 (.slice (some ⟨g2, 0, none⟩) (t + 2) cap2) (t + 2) (I64 (l ++ [-91, -92])) := by
    have := o4
    rwa [show I64 l ++ (#[Value.int .i64 (-91), .int .i64 (-92)] : Array Value).toList = I64 (l ++ [-91, -92]) by simp [I64]] at this
  replace hv1 := hv1.below hb4
  replace q1 := q1.below hb4
  replace q2 := q2.below hb4
  replace h0 := bthen h0 hb4
  clear o4 hb4
  have rin : ∀ {u : World}, u.ownsRow w2.heap.size 3 1 (.slice (some ⟨g2, 0, none⟩) (t + 2) cap2) (t + 2) (I64 (l ++ [-91, -92])) → Rd u (some ⟨g2, 0, none⟩) (I64 l) := fun {u} h => by
    have := own_rdA h
    rw [show I64 (l ++ [-91, -92]) = I64 l ++ I64 [-91, -92] by simp [I64]] at this
    exact this.left
  have x2 : w4.cell? ⟨N, 0, none⟩ = some (.slice (some ⟨g, 0, none⟩) n vc) := q2.cell _
  have x3 : w4.cell? ⟨N, 1, none⟩ = some (.slice (some ⟨h, 0, none⟩) m uc) := q2.cell _
  have hcap : t ≤ cap2 := by omega
  go_region_held3 (fun w' => w'.cell? ⟨N, 0, none⟩ = some (.slice (some ⟨g, 0, none⟩) n vc) ∧ w'.cell? ⟨N, 1, none⟩ = some (.slice (some ⟨h, 0, none⟩) m uc))
    (first | exact ⟨‹_›, ‹_›⟩ | exact ‹_›)
    (first | (go_at_call 22; refine (decode_any _ _ _ n m t vc uc cap2 bs ps l _ (hv1.below (Below.drew (Below.refl _ _))).voc hwf hl (Rd.below (rin o5) (Below.drew (Below.refl _ _))) (by omega)).mono ?_; rintro e w5 ⟨v5, rfl, ov5, hb5⟩; have z2 : w5.cell? ⟨N, 0, none⟩ = some (.slice (some ⟨g, 0, none⟩) n vc) := (Blk.below (Blk.drew q2) hb5).cell _; have z3 : w5.cell? ⟨N, 1, none⟩ = some (.slice (some ⟨h, 0, none⟩) m uc) := (Blk.below (Blk.drew q2) hb5).cell _))
  all_goals
    clear x2 x3 z2 z3
    have hb : Below w4.heap.size w4 w5 := bthen (Below.drew (Below.refl _ _)) hb5
    have ov6 := own_base (base' := w2.heap.size) ov5 (show w2.heap.size ≤ w4.drew.heap.size from Nat.le_trans (own_lt o5 g2 rfl).1 (Nat.le_of_lt (own_lt o5 g2 rfl).2))
    obtain ⟨va5, vc5, rfl, _, _⟩ := own_rd ov6
    replace hv1 := hv1.below hb
    replace q1 := q1.below hb
    replace q2 := q2.below hb
    replace o5 := own_below o5 hb
    replace h0 := bthen h0 hb
    clear hb ov5 hb5
    have x0 : w5.cell? ⟨w.heap.size, 0, none⟩ = some (.slice A n c) := q1.cell _
    have x1 : w5.cell? ⟨w.heap.size, 1, none⟩ = some (.slice A' m c') := q1.cell _
    go_wp2_with fail
    refine (refDecode_any A A' T n m t c c' ct bs ps l w5 (hv.below h0) hl (ht.below h0) (by omega)).mono ?_
    rintro e w6 ⟨v6, rfl, ov7, hb⟩
    obtain ⟨va6, vc6, rfl, _, _⟩ := own_rd ov7
    replace ov6 := own_below ov6 hb
    replace hv1 := hv1.below hb
    replace q1 := q1.below hb
    replace q2 := q2.below hb
    replace o5 := own_below o5 hb
    replace h0 := bthen h0 hb
    clear hb x0 x1
    go_wp2_with fail
    refine (eqBytes_any _ _ _ _ _ _ (bytD bs ps l) (bytD bs ps l) rfl rfl ?_ w6 (own_rdA ov6) (own_rdA ov7)).mono ?_
    · have := bytD_small bs ps l
      omega
    rintro e w7 ⟨rfl, hb⟩
    rw [decide_eq_true rfl]
    replace hv1 := hv1.below hb
    replace q1 := q1.below hb
    replace q2 := q2.below hb
    replace o5 := own_below o5 hb
    replace h0 := bthen h0 hb
    clear hb ov6 ov7
    have x0 : w7.cell? ⟨w.heap.size, 0, none⟩ = some (.slice A n c) := q1.cell _
    have x1 : w7.cell? ⟨w.heap.size, 1, none⟩ = some (.slice A' m c') := q1.cell _
    have x2 : w7.cell? ⟨N, 0, none⟩ = some (.slice (some ⟨g, 0, none⟩) n vc) := q2.cell _
    have x3 : w7.cell? ⟨N, 1, none⟩ = some (.slice (some ⟨h, 0, none⟩) m uc) := q2.cell _
    go_wp2_with fail
    refine (still_any A A' g h vc uc n m c c' bs ps w7 hv1 (hv.below h0)).mono ?_
    rintro e w8 ⟨rfl, hb⟩
    replace hv1 := hv1.below hb
    replace q1 := q1.below hb
    replace q2 := q2.below hb
    replace o5 := own_below o5 hb
    replace h0 := bthen h0 hb
    clear hb x0 x1 x2 x3
    go_wp2_with fail
    refine (eqInts_any _ _ t t cap2 ct l l hl hl (by omega) w8 (rin o5) (ht.below h0)).mono ?_
    rintro e w9 ⟨rfl, hb⟩
    rw [decide_eq_true rfl]
    replace hv1 := hv1.below hb
    replace q1 := q1.below hb
    replace q2 := q2.below hb
    replace o5 := own_below o5 hb
    replace h0 := bthen h0 hb
    clear hb
    have y1 := own_cell o5 t (.int .i64 (-91)) (by simp [I64, hl])
    have y2 := own_cell o5 (t + 1) (.int .i64 (-92)) (by simp [I64, hl])
    have ea1 : (⟨g2, 0, none⟩ : Addr).add t = ⟨g2, t, none⟩ := by simpa using addr_add g2 0 t
    have ea2 : (⟨g2, 0, none⟩ : Addr).add (t + 1) = ⟨g2, t + 1, none⟩ := by simpa using addr_add g2 0 (t + 1)
    go_wp2
    go_returns
    exact ⟨rfl, h0⟩
end Go.Proofs.Ytobklhnechbpaaa
