import Derived.Test.YtlocogccjlecjaaDoorRdP
import Derived.Test.YtlocogccjlecjaaDoorReg
namespace Go.Proofs.YtlocogccjlecjaaDoor
open Go.RowKit
def CS (rs : List Nat) : List Value := rs.flatMap fun N => (setC N).toList
theorem CS_snoc (rs : List Nat) (N : Nat) : CS rs ++ (setC N).toList = CS (rs ++ [N]) := by simp [CS]
theorem U64_snoc (l : List Nat) (n : Nat) : U64 l ++ [.int .u64 ((n : Nat) : Int)] = U64 (l ++ [n]) := by simp [U64]
/-- the places in memory: their rows in blocks of S, from B on -/
def Pl (B x : Nat) (S : Nat → Prop) (w : World) (rs fs : List Nat) : Prop :=
  ∃ rA rc fA fc n, rs.length = n ∧ fs.length = n ∧ Blk w x #[.slice rA n rc, .slice fA n fc] 71 ∧ w.ownsRow B 84 4 (.slice rA n rc) n (CS rs) ∧ w.ownsRow B 72 1 (.slice fA n fc) n (U64 fs) ∧
    (∀ z, (Value.slice rA n rc).ownBlock = some z → S z) ∧ (∀ z, (Value.slice fA n fc).ownBlock = some z → S z) ∧ ∀ f ∈ fs, f < 18446744073709551616
theorem info84 : (Tryd.prog.info? 84).map (fun i => (i.zero, i.size, i.bytes)) = some (some (.agg #[.int .u64 0, .int .u64 0, .int .u64 0, .int .u64 0]), 4, 32) := by kernel_rfl
theorem info72 : (Tryd.prog.info? 72).map (fun i => (i.zero, i.size, i.bytes)) = some (some (.int .u64 0), 1, 8) := by kernel_rfl
/-- what read answers -/
def EnV (e : En) : Value := .agg #[.bool e.e, .int .u64 ((e.f : Nat) : Int), .int .u64 ((e.l : Nat) : Int)]
def RdPost (B x : Nat) (S : Nat → Prop) (t : Rx) (rs fs : List Nat) (w : World) (e : Ending) (w' : World) : Prop :=
  e = .returned (EnV (rdF t rs fs).1) ∧ Pl B x (fun z => S z ∨ w.heap.size ≤ z) w' (rdF t rs fs).2.1 (rdF t rs fs).2.2 ∧ Kp (fun z => z = x ∨ (B ≤ z ∧ S z)) w w'
/-- within a leaf's reading -/
structure LfS (B x : Nat) (S : Nat → Prop) (T L : Nat) (xv tc lc : Array Value) (rv fv : Value) (nr nf : Nat) (rl fl : List Value) (w0 w : World) : Prop where
  bx : Blk w x xv 71
  bt : Blk w T tc 74
  bl : Blk w L lc 118
  or_ : w.ownsRow B 84 4 rv nr rl
  of_ : w.ownsRow B 72 1 fv nf fl
  sr : ∀ z, rv.ownBlock = some z → S z ∨ w0.heap.size ≤ z
  sf : ∀ z, fv.ownBlock = some z → S z ∨ w0.heap.size ≤ z
  kp : Kp (fun z => z = x ∨ (B ≤ z ∧ S z)) w0 w
  lt : x < B
  le : B ≤ w.heap.size
section
variable {B x T L nr nf : Nat} {S : Nat → Prop} {xv tc lc : Array Value} {rv fv : Value} {rl fl : List Value} {w0 w w1 : World}
theorem LfS.alloc (h : LfS B x S T L xv tc lc rv fv nr nf rl fl w0 w) (o : Obj) : LfS B x S T L xv tc lc rv fv nr nf rl fl w0 (w.alloc o) :=
  ⟨h.bx.alloc _, h.bt.alloc _, h.bl.alloc _, h.or_.alloc _, h.of_.alloc _, h.sr, h.sf, h.kp.below (by go_grown), h.lt, Nat.le_trans h.le (by simp)⟩
theorem LfS.drew (h : LfS B x S T L xv tc lc rv fv nr nf rl fl w0 w) : LfS B x S T L xv tc lc rv fv nr nf rl fl w0 w.drew :=
  ⟨h.bx, h.bt, h.bl, h.or_, h.of_, h.sr, h.sf, ⟨h.kp.os, h.kp.tape, h.kp.output, h.kp.size, h.kp.block⟩, h.lt, h.le⟩
theorem LfS.appR (h : LfS B x S T L xv tc lc rv fv nr nf rl fl w0 w) {g n2 c2 : Nat} {rl2 : List Value} (ho : w1.ownsRow B 84 4 (.slice (some ⟨g, 0, none⟩) n2 c2) n2 rl2) (hg : w.grownBy w1 rv.ownBlock) (ha : rv.ownBlock = some g ∨ g = w.heap.size) :
    LfS B x S T L xv tc lc (.slice (some ⟨g, 0, none⟩) n2 c2) fv n2 nf rl2 fl w0 w1 :=
  ⟨h.bx.kept hg (h.bx.not_row (by decide) h.or_), h.bt.kept hg (h.bt.not_row (by decide) h.or_), h.bl.kept hg (h.bl.not_row (by decide) h.or_), ho,
   h.of_.kept hg (own_type_ne h.of_ h.or_ (by decide)), fun z hz => by
     have e : g = z := by simpa [Value.ownBlock] using hz
     subst e
     rcases ha with ha | ha
     · exact h.sr _ ha
     · right; have := h.kp.size; omega, h.sf, h.kp.grown hg (fun k hk hl => .inr ⟨(own_lt h.or_ k hk).1, (h.sr k hk).resolve_right (by omega)⟩), h.lt, Nat.le_trans h.le hg.size⟩
theorem LfS.appF (h : LfS B x S T L xv tc lc rv fv nr nf rl fl w0 w) {g n2 c2 : Nat} {fl2 : List Value} (ho : w1.ownsRow B 72 1 (.slice (some ⟨g, 0, none⟩) n2 c2) n2 fl2) (hg : w.grownBy w1 fv.ownBlock) (ha : fv.ownBlock = some g ∨ g = w.heap.size) :
    LfS B x S T L xv tc lc rv (.slice (some ⟨g, 0, none⟩) n2 c2) nr n2 rl fl2 w0 w1 :=
  ⟨h.bx.kept hg (h.bx.not_row (by decide) h.of_), h.bt.kept hg (h.bt.not_row (by decide) h.of_), h.bl.kept hg (h.bl.not_row (by decide) h.of_), h.or_.kept hg (own_type_ne h.or_ h.of_ (by decide)), ho, h.sr, fun z hz => by
     have e : g = z := by simpa [Value.ownBlock] using hz
     subst e
     rcases ha with ha | ha
     · exact h.sf _ ha
     · right; have := h.kp.size; omega,
   h.kp.grown hg (fun k hk hl => .inr ⟨(own_lt h.of_ k hk).1, (h.sf k hk).resolve_right (by omega)⟩), h.lt, Nat.le_trans h.le hg.size⟩
theorem LfS.setX (h : LfS B x S T L xv tc lc rv fv nr nf rl fl w0 w) (hT : x < T) (hL : x < L) (i : Nat) (u : Value) : LfS B x S T L (xv.setIfInBounds i u) tc lc rv fv nr nf rl fl w0 (w.setCell ⟨x, i, none⟩ u) :=
  ⟨h.bx.set i u, h.bt.other _ _ (show T ≠ x by omega), h.bl.other _ _ (show L ≠ x by omega), own_set_other h.or_ x i u (h.bx.not_row (by decide) h.or_), own_set_other h.of_ x i u (h.bx.not_row (by decide) h.of_), h.sr, h.sf,
   h.kp.set x i u (fun _ => .inl rfl), h.lt, by simpa using h.le⟩
theorem LfS.setT (h : LfS B x S T L xv tc lc rv fv nr nf rl fl w0 w) (hT : x < T) (hL : T ≠ L) (hT0 : w0.heap.size ≤ T) (i : Nat) (u : Value) : LfS B x S T L xv (tc.setIfInBounds i u) lc rv fv nr nf rl fl w0 (w.setCell ⟨T, i, none⟩ u) :=
  ⟨h.bx.other _ _ (show x ≠ T by omega), h.bt.set i u, h.bl.other _ _ (show L ≠ T by omega), own_set_other h.or_ T i u (h.bt.not_row (by decide) h.or_), own_set_other h.of_ T i u (h.bt.not_row (by decide) h.of_), h.sr, h.sf,
   h.kp.set T i u (fun hl => absurd hl (by omega)), h.lt, by simpa using h.le⟩
end
theorem leaf_fin {B x T L N n g1 c1 g2 c2 bit : Nat} {S : Nat → Prop} {xv tc lc : Array Value} {rs fs : List Nat} {cs us : List Value} {w0 w : World} (h : LfS B x S T L xv tc lc (.slice (some ⟨g1, 0, none⟩) (n + 1) c1) (.slice (some ⟨g2, 0, none⟩) (n + 1) c2) (n + 1) (n + 1) (cs ++ (#[.int .u64 (wd N 0 : Nat), .int .u64 (wd N 1 : Nat), .int .u64 (wd N 2 : Nat), .int .u64 (wd N 3 : Nat)] : Array Value).toList) (us ++ [.int .u64 ((0 : Nat) : Int)]) w0 w)
    (hx : xv = #[.slice (some ⟨g1, 0, none⟩) (n + 1) c1, .slice (some ⟨g2, 0, none⟩) (n + 1) c2]) (hb : bit = 1 <<< n) (hn : rs.length = n) (hn2 : fs.length = n) (hfl : ∀ f ∈ fs, f < 18446744073709551616)
    (hc : cs ++ (#[.int .u64 (wd N 0 : Nat), .int .u64 (wd N 1 : Nat), .int .u64 (wd N 2 : Nat), .int .u64 (wd N 3 : Nat)] : Array Value).toList = CS (rs ++ [N]) ∧ us ++ [.int .u64 ((0 : Nat) : Int)] = U64 (fs ++ [0])) :
    RdPost B x S (.leaf N) rs fs w0 (.returned (.agg #[.bool false, .int .u64 ((bit : Nat) : Int), .int .u64 ((bit : Nat) : Int)])) w := by
  subst hb hx
  refine ⟨by simp only [rdF, EnV, hn], ⟨_, _, _, _, n + 1, by simp [rdF, hn], by simp [rdF, hn2], h.bx, ?_, ?_, h.sr, h.sf, fun f hf => ?_⟩, h.kp⟩
  · have := h.or_
    rw [hc.1] at this
    exact this
  · have := h.of_
    rw [hc.2] at this
    exact this
  · simp only [rdF] at hf
    rcases List.mem_append.1 hf with h1 | h1
    · exact hfl f h1
    · rw [List.mem_singleton.1 h1]; decide
set_option maxRecDepth 100000 in
set_option maxHeartbeats 4000000 in
/-- read: a leaf -/
theorem read_leaf (B x N : Nat) (S : Nat → Prop) (rs fs : List Nat) (w : World) (hx : x < B) (hB : B ≤ w.heap.size) (hp : Pl B x S w rs fs) (hl : rs.length + 1 ≤ 64) :
    Calls Tryd.prog 28 #[.pointer (some ⟨x, 0, none⟩), .iface 118 (.agg (setC N))] w fun e w' => RdPost B x S (.leaf N) rs fs w e w' := by
  obtain ⟨rA, rc, fA, fc, n, hn, hn2, qx, oR, oF, hsr, hsf, hfl⟩ := hp
  have h0 : Below w.heap.size w ((w.alloc (.cells #[.bool false, .int .u64 0, .int .u64 0] 74)).alloc (.cells (setC N) 118)) := by go_grown
  have q4 := (Blk.new w #[.bool false, .int .u64 0, .int .u64 0] 74).alloc (.cells (setC N) 118)
  have q5 := Blk.new (w.alloc (.cells #[.bool false, .int .u64 0, .int .u64 0] 74)) (setC N) 118
  simp only [World.size_alloc] at q5
  have HN : setC N = #[.int .u64 (wd N 0 : Nat), .int .u64 (wd N 1 : Nat), .int .u64 (wd N 2 : Nat), .int .u64 (wd N 3 : Nat)] := rfl
  have hta : ∀ w : World, (Instr.typeAssert (.iface 118 (.agg #[.int .u64 (wd N 0 : Nat), .int .u64 (wd N 1 : Nat), .int .u64 (wd N 2 : Nat), .int .u64 (wd N 3 : Nat)])) 64 118 true).run Tryd.prog w = .ok (.tuple #[.agg #[.int .u64 (wd N 0 : Nat), .int .u64 (wd N 1 : Nat), .int .u64 (wd N 2 : Nat), .int .u64 (wd N 3 : Nat)], .bool true]) w := fun _ => by kernel_rfl
  have s0 : LfS B x S w.heap.size (w.heap.size + 1) #[.slice rA n rc, .slice fA n fc] #[.bool false, .int .u64 0, .int .u64 0] (setC N) (.slice rA n rc) (.slice fA n fc) n n (CS rs) (U64 fs) w ((w.alloc (.cells #[.bool false, .int .u64 0, .int .u64 0] 74)).alloc (.cells (setC N) 118)) :=
    ⟨qx.below h0, q4, q5, own_below oR h0, own_below oF h0, fun z h => .inl (hsr z h), fun z h => .inl (hsf z h), .of_below h0, hx, Nat.le_trans hB h0.size⟩
  have CN := Lib.hid (show (CS rs ++ (setC N).toList = CS (rs ++ [N]) ∧ U64 fs ++ [.int .u64 ((0 : Nat) : Int)] = U64 (fs ++ [0])) from ⟨CS_snoc rs N, U64_snoc fs 0⟩)
  generalize hcs : CS rs = cs at *
  generalize hus : U64 fs = us at *
  rw [HN] at h0 s0 CN ⊢
  have y0 : ((w.alloc (.cells #[.bool false, .int .u64 0, .int .u64 0] 74)).alloc (.cells #[.int .u64 (wd N 0 : Nat), .int .u64 (wd N 1 : Nat), .int .u64 (wd N 2 : Nat), .int .u64 (wd N 3 : Nat)] 118)).cell? ⟨x, 0, none⟩ = some (.slice rA n rc) := s0.bx.cell 0
  have hxH : x < w.heap.size := by omega
  have hxL : x < w.heap.size + 1 := by omega
  have HLN : (n + 1) * 32 ≤ 140737488355328 := by omega
  have HLN2 : (n + 1) * 8 ≤ 140737488355328 := by omega
  obtain ⟨bit, hbit⟩ : ∃ bit : Nat, bit = 1 <<< n := ⟨_, rfl⟩
  have HBIT : IntKind.u64.wrap (2 ^ n) = ((bit : Nat) : Int) := by
    have h1 : (2 : Nat) ^ n < 2 ^ 64 := Nat.pow_lt_pow_right (by decide) (by omega)
    rw [hbit, Nat.one_shiftLeft, IntKind.wrap_u64]
    have h2 : ((2 : Int) ^ n) = ((2 ^ n : Nat) : Int) := by push_cast; rfl
    rw [h2]
    exact Int.emod_eq_of_lt (Int.natCast_nonneg _) (Int.ofNat_lt.2 h1)
  have HB2 := Lib.hid hbit
  clear hbit
  clear q4 q5 qx oR oF hsr hsf
  go_enter Tryd.func28, Tryd.ntmps28
  go_upto_region 5 with fail
  clear HBIT hta y0
  generalize (w.alloc (.cells #[.bool false, .int .u64 0, .int .u64 0] 74)).alloc (.cells #[.int .u64 (wd N 0 : Nat), .int .u64 (wd N 1 : Nat), .int .u64 (wd N 2 : Nat), .int .u64 (wd N 3 : Nat)] 118) = W at *
  have s1 := s0.drew
  refine wp_region_S 18 (fun w' => Blk w' x #[.slice rA n rc, .slice fA n fc] 71 ∧ Blk w' (w.heap.size + 1) #[.int .u64 (wd N 0 : Nat), .int .u64 (wd N 1 : Nat), .int .u64 (wd N 2 : Nat), .int .u64 (wd N 3 : Nat)] 118) (by kernel_rfl) ?_
  have hS : (fun w' => Blk w' x #[.slice rA n rc, .slice fA n fc] 71 ∧ Blk w' (w.heap.size + 1) #[.int .u64 (wd N 0 : Nat), .int .u64 (wd N 1 : Nat), .int .u64 (wd N 2 : Nat), .int .u64 (wd N 3 : Nat)] 118) W.drew := ⟨s1.bx, s1.bl⟩
  generalize W.drew = D at *
  refine wpS_take0 (i := 0) (v := ?_) rfl (by kernel_rfl) (by kernel_rfl) (by kernel_rfl) (by rfl) (fun _ _ _ h => h) (by rfl) (fun w' => ?_) (by assumption) ?_
  rotate_left
  · (go_simp; try with_reducible rfl)
  (try simp only [Act.put, List.setIfInBounds_toArray, List.set_cons_zero, List.set_cons_succ])
  refine wpS_take0 (i := 1) (v := ?_) rfl (by kernel_rfl) (by kernel_rfl) (by kernel_rfl) (by rfl) (fun _ _ _ h => h) (by rfl) (fun w' => ?_) (by assumption) ?_
  rotate_left
  · (go_simp; try with_reducible rfl)
  (try simp only [Act.put, List.setIfInBounds_toArray, List.set_cons_zero, List.set_cons_succ])
  refine wpS_take0 (i := 2) (v := ?_) rfl (by kernel_rfl) (by kernel_rfl) (by kernel_rfl) (by rfl) (fun _ _ _ h => h) (by rfl) (fun w' => ?_) (by assumption) ?_
  rotate_left
  · (go_simp; try with_reducible rfl)
  (try simp only [Act.put, List.setIfInBounds_toArray, List.set_cons_zero, List.set_cons_succ])
  refine wpS_take0 (i := 3) (v := ?_) rfl (by kernel_rfl) (by kernel_rfl) (by kernel_rfl) (by rfl) (fun _ _ _ h => h) (by rfl) (fun w' => ?_) (by assumption) ?_
  rotate_left
  · (go_simp; try with_reducible rfl)
  (try simp only [Act.put, List.setIfInBounds_toArray, List.set_cons_zero, List.set_cons_succ])
  refine wpS_take0 (i := 4) (v := ?_) rfl (by kernel_rfl) (by kernel_rfl) (by kernel_rfl) (by rfl) (fun _ _ _ h => h) (by rfl) (fun w' => ?_) (by assumption) ?_
  rotate_left
  · (go_simp; try with_reducible rfl)
  (try simp only [Act.put, List.setIfInBounds_toArray, List.set_cons_zero, List.set_cons_succ])
  refine wpS_take0 (i := 6) (v := ?_) rfl (by kernel_rfl) (by kernel_rfl) (by kernel_rfl) (by rfl) (fun _ _ _ h => h) (by rfl) (fun w' => ?_) (by assumption) ?_
  rotate_left
  · (go_simp; try with_reducible rfl)
  (try simp only [Act.put, List.setIfInBounds_toArray, List.set_cons_zero, List.set_cons_succ])
  refine wpS_take0 (i := 10) (v := ?_) rfl (by kernel_rfl) (by kernel_rfl) (by kernel_rfl) (by rfl) (fun _ _ _ h => h) (by rfl) (fun w' => ?_) (by assumption) ?_
  rotate_left
  · (go_simp; try with_reducible rfl)
  (try simp only [Act.put, List.setIfInBounds_toArray, List.set_cons_zero, List.set_cons_succ])
  refine wpS_take0 (i := 11) (v := ?_) rfl (by kernel_rfl) (by kernel_rfl) (by kernel_rfl) (by rfl) (fun _ _ _ h => h) (by rfl) (fun w' => ?_) (by assumption) ?_
  rotate_left
  · (go_simp; try with_reducible rfl)
  (try simp only [Act.put, List.setIfInBounds_toArray, List.set_cons_zero, List.set_cons_succ])
  refine wpS_take0 (i := 12) (v := ?_) rfl (by kernel_rfl) (by kernel_rfl) (by kernel_rfl) (by rfl) (fun _ _ _ h => h) (by rfl) (fun w' => ?_) (by assumption) ?_
  rotate_left
  · (go_simp; try with_reducible rfl)
  (try simp only [Act.put, List.setIfInBounds_toArray, List.set_cons_zero, List.set_cons_succ])
  refine wpS_take (i := 5) (v := ?_) rfl (by kernel_rfl) (by kernel_rfl) (by kernel_rfl) (by kernel_rfl) (by kernel_rfl) (fun _ _ _ h => h) (by rfl) (fun w' hSw => ?_) (by assumption) ?_
  rotate_left
  · have y := hSw.1.cell 0
    (go_simp; try with_reducible rfl)
  (try simp only [Act.put, List.setIfInBounds_toArray, List.set_cons_zero, List.set_cons_succ])
  refine wpS_take (i := 13) (v := ?_) rfl (by kernel_rfl) (by kernel_rfl) (by kernel_rfl) (by kernel_rfl) (by kernel_rfl) (fun _ _ _ h => h) (by rfl) (fun w' hSw => ?_) (by assumption) ?_
  rotate_left
  · have y := hSw.1.cell 1
    (go_simp; try with_reducible rfl)
  (try simp only [Act.put, List.setIfInBounds_toArray, List.set_cons_zero, List.set_cons_succ])
  refine wpS_take (i := 7) (v := ?_) rfl (by kernel_rfl) (by kernel_rfl) (by kernel_rfl) (by kernel_rfl) (by kernel_rfl) (fun _ _ _ h => h) (by rfl) (fun w' hSw => ?_) (by assumption) ?_
  rotate_left
  · have y0 := hSw.2.cell 0
    have y1 := hSw.2.cell 1
    have y2 := hSw.2.cell 2
    have y3 := hSw.2.cell 3
    (go_simp; try with_reducible rfl)
  (try simp only [Act.put, List.setIfInBounds_toArray, List.set_cons_zero, List.set_cons_succ])
  refine wpS_two (i := 8) (j := 14) (by kernel_rfl) ?_ ?_
  · have s2 := s1.alloc (.cells #[.int .u64 (wd N 0 : Nat), .int .u64 (wd N 1 : Nat), .int .u64 (wd N 2 : Nat), .int .u64 (wd N 3 : Nat)] 84)
    have b8 := Blk.new D #[.int .u64 (wd N 0 : Nat), .int .u64 (wd N 1 : Nat), .int .u64 (wd N 2 : Nat), .int .u64 (wd N 3 : Nat)] 84
    refine Nxt.step rfl (fun K' hK => ?_)
    go_simp
    refine hK.out _ _ (.inr ⟨s2.bx, s2.bl⟩) ?_
    clear hK K'
    (try simp only [Act.put, List.setIfInBounds_toArray, List.set_cons_zero, List.set_cons_succ])
    generalize D.alloc (.cells #[.int .u64 (wd N 0 : Nat), .int .u64 (wd N 1 : Nat), .int .u64 (wd N 2 : Nat), .int .u64 (wd N 3 : Nat)] 84) = D2 at *
    generalize D.heap.size = H8 at *
    refine wpS_two (i := 9) (j := 14) (by kernel_rfl) ?_ ?_
    · refine Nxt.step rfl (fun K' hK => ?_)
      refine appStep (w0 := D2) B rfl _ _ 68 84 (.agg #[.int .u64 0, .int .u64 0, .int .u64 0, .int .u64 0]) 4 32 rfl Tryd.underlying68 info84 rfl (by decide) (by decide) (.slice rA n rc) n cs H8 #[.int .u64 (wd N 0 : Nat), .int .u64 (wd N 1 : Nat), .int .u64 (wd N 2 : Nat), .int .u64 (wd N 3 : Nat)] rfl rfl rfl (by simp [Value.oneCell']) b8 s2.or_ (Below.refl _ _) s2.le HLN ?_
      intro g9 cap9 D3 os9 hb9 hg9 hat9
      have s3 := s2.appR os9 hg9 hat9
      refine hK.out _ _ (.inr ⟨s3.bx, s3.bl⟩) ?_
      clear hK K' hb9 hat9 hg9 os9
      (try simp only [Act.put, List.setIfInBounds_toArray, List.set_cons_zero, List.set_cons_succ])
      refine wpS_one (i := 14) (by kernel_rfl) ?_
      have s4 := s3.alloc (.cells #[.int .u64 0] 72)
      have b14 := Blk.new D3 #[.int .u64 0] 72
      have b8 := b8.alloc (.cells #[.int .u64 0] 72)
      refine Nxt.step rfl (fun K' hK => ?_)
      go_simp
      refine hK.out _ _ (.inr ⟨s4.bx, s4.bl⟩) ?_
      clear hK K'
      (try simp only [Act.put, List.setIfInBounds_toArray, List.set_cons_zero, List.set_cons_succ])
      generalize D3.alloc (.cells #[.int .u64 0] 72) = D4 at *
      generalize D3.heap.size = H14 at *
      refine wpS_one (i := 15) (by kernel_rfl) ?_
      refine Nxt.step rfl (fun K' hK => ?_)
      refine appStep (w0 := D4) B rfl _ _ 69 72 (.int .u64 0) 1 8 rfl Tryd.underlying69 info72 rfl (by decide) (by decide) (.slice fA n fc) n us H14 #[.int .u64 0] rfl rfl rfl (by simp [Value.oneCell']) b14 s4.of_ (Below.refl _ _) s4.le HLN2 ?_
      intro g15 cap15 D5 os15 hb15 hg15 hat15
      have s5 := s4.appF os15 hg15 hat15
      refine hK.out _ _ (.inr ⟨s5.bx, s5.bl⟩) ?_
      clear hK K' hb15 hat15 hg15 os15
      (try simp only [Act.put, List.setIfInBounds_toArray, List.set_cons_zero, List.set_cons_succ])
      refine wpS_one (i := 16) (by kernel_rfl) ?_
      refine Nxt.step rfl (fun K' hK => ?_)
      go_simp
      refine hK.out _ _ (.inr ⟨s5.bx, s5.bl⟩) ?_
      clear hK K'
      (try simp only [Act.put, List.setIfInBounds_toArray, List.set_cons_zero, List.set_cons_succ])
      refine wpS_one (i := 17) (by kernel_rfl) ?_
      refine Nxt.step rfl (fun K' hK => ?_)
      go_simp
      refine hK.out _ _ (.inr ⟨s5.bx, s5.bl⟩) ?_
      clear hK K'
      (try simp only [Act.put, List.setIfInBounds_toArray, List.set_cons_zero, List.set_cons_succ])
      refine wpS_one (i := 18) (by kernel_rfl) ?_
      have x0 := s5.bx.cell 0
      have f0 := s5.bx.frozen 0
      have x1 := s5.bx.cell 1
      have sA := s5.setX hxH hxL 0 (.slice (some ⟨g9, 0, none⟩) (n + 1) cap9)
      refine Nxt.step rfl (fun K' hK => ?_)
      go_simp
      refine hK.out _ _ (.inl (by kernel_rfl)) ?_
      clear hK K' x0 f0 x1
      (try simp only [Act.put, List.setIfInBounds_toArray, List.set_cons_zero, List.set_cons_succ])
      generalize D5.setCell ⟨x, 0, none⟩ (.slice (some ⟨g9, 0, none⟩) (n + 1) cap9) = DA at *
      refine wpS_one (i := 19) (by kernel_rfl) ?_
      refine Nxt.step rfl (fun K' hK => ?_)
      go_simp
      refine hK.out _ _ (.inl (by kernel_rfl)) ?_
      clear hK K'
      (try simp only [Act.put, List.setIfInBounds_toArray, List.set_cons_zero, List.set_cons_succ])
      refine wpS_one (i := 20) (by kernel_rfl) ?_
      refine Nxt.step rfl (fun K' hK => ?_)
      go_simp
      refine hK.out _ _ (.inl (by kernel_rfl)) ?_
      clear hK K'
      (try simp only [Act.put, List.setIfInBounds_toArray, List.set_cons_zero, List.set_cons_succ])
      refine wpS_one (i := 21) (by kernel_rfl) ?_
      have x1 := sA.bx.cell 1
      have f1 := sA.bx.frozen 1
      have sB := sA.setX hxH hxL 1 (.slice (some ⟨g15, 0, none⟩) (n + 1) cap15)
      refine Nxt.step rfl (fun K' hK => ?_)
      go_simp
      refine hK.out _ _ (.inl (by kernel_rfl)) ?_
      clear hK K' x1 f1
      (try simp only [Act.put, List.setIfInBounds_toArray, List.set_cons_zero, List.set_cons_succ])
      generalize DA.setCell ⟨x, 1, none⟩ (.slice (some ⟨g15, 0, none⟩) (n + 1) cap15) = DB at *
      refine wpS_done (by kernel_rfl) ?_ _
      have t0 : DB.cell? ⟨w.heap.size, 0, none⟩ = some (.bool false) := sB.bt.cell 0
      have t1 : DB.cell? ⟨w.heap.size, 1, none⟩ = some (.int .u64 0) := sB.bt.cell 1
      have t2 : DB.cell? ⟨w.heap.size, 2, none⟩ = some (.int .u64 0) := sB.bt.cell 2
      have u0 := sB.bt.frozen 0
      have u1 := sB.bt.frozen 1
      have u2 := sB.bt.frozen 2
      have sE := ((sB.setT hxH (by omega) (Nat.le_refl _) 0 (.bool false)).setT hxH (by omega) (Nat.le_refl _) 1 (.int .u64 ((bit : Nat) : Int))).setT hxH (by omega) (Nat.le_refl _) 2 (.int .u64 ((bit : Nat) : Int))
      have SE := Lib.hid sE
      clear sE sB sA
      go_wp2
      have sE := SE.out
      generalize ((DB.setCell ⟨w.heap.size, 0, none⟩ (.bool false)).setCell ⟨w.heap.size, 1, none⟩ (.int .u64 ((bit : Nat) : Int))).setCell ⟨w.heap.size, 2, none⟩ (.int .u64 ((bit : Nat) : Int)) = DE at *
      have z0 : DE.cell? ⟨w.heap.size, 0, none⟩ = some (.bool false) := sE.bt.cell 0
      have z1 : DE.cell? ⟨w.heap.size, 1, none⟩ = some (.int .u64 ((bit : Nat) : Int)) := sE.bt.cell 1
      have z2 : DE.cell? ⟨w.heap.size, 2, none⟩ = some (.int .u64 ((bit : Nat) : Int)) := sE.bt.cell 2
      simp [bodyPost, results, Tryd.results28, go_sem, z0, z1, z2]
      exact leaf_fin sE rfl HB2.out hn hn2 hfl CN.out
    · have s3 := s2.alloc (.cells #[.int .u64 0] 72)
      have b14 := Blk.new D2 #[.int .u64 0] 72
      have b8 := b8.alloc (.cells #[.int .u64 0] 72)
      refine Nxt.step rfl (fun K' hK => ?_)
      go_simp
      refine hK.out _ _ (.inr ⟨s3.bx, s3.bl⟩) ?_
      clear hK K'
      (try simp only [Act.put, List.setIfInBounds_toArray, List.set_cons_zero, List.set_cons_succ])
      generalize D2.alloc (.cells #[.int .u64 0] 72) = D3 at *
      generalize D2.heap.size = H14 at *
      refine wpS_one (i := 9) (by kernel_rfl) ?_
      refine Nxt.step rfl (fun K' hK => ?_)
      refine appStep (w0 := D3) B rfl _ _ 68 84 (.agg #[.int .u64 0, .int .u64 0, .int .u64 0, .int .u64 0]) 4 32 rfl Tryd.underlying68 info84 rfl (by decide) (by decide) (.slice rA n rc) n cs H8 #[.int .u64 (wd N 0 : Nat), .int .u64 (wd N 1 : Nat), .int .u64 (wd N 2 : Nat), .int .u64 (wd N 3 : Nat)] rfl rfl rfl (by simp [Value.oneCell']) b8 s3.or_ (Below.refl _ _) s3.le HLN ?_
      intro g9 cap9 D4 os9 hb9 hg9 hat9
      have s4 := s3.appR os9 hg9 hat9
      have b14 := b14.kept hg9 (b14.not_row (by decide) s3.or_)
      refine hK.out _ _ (.inr ⟨s4.bx, s4.bl⟩) ?_
      clear hK K' hb9 hat9 hg9 os9
      (try simp only [Act.put, List.setIfInBounds_toArray, List.set_cons_zero, List.set_cons_succ])
      refine wpS_one (i := 15) (by kernel_rfl) ?_
      refine Nxt.step rfl (fun K' hK => ?_)
      refine appStep (w0 := D4) B rfl _ _ 69 72 (.int .u64 0) 1 8 rfl Tryd.underlying69 info72 rfl (by decide) (by decide) (.slice fA n fc) n us H14 #[.int .u64 0] rfl rfl rfl (by simp [Value.oneCell']) b14 s4.of_ (Below.refl _ _) s4.le HLN2 ?_
      intro g15 cap15 D5 os15 hb15 hg15 hat15
      have s5 := s4.appF os15 hg15 hat15
      refine hK.out _ _ (.inr ⟨s5.bx, s5.bl⟩) ?_
      clear hK K' hb15 hat15 hg15 os15
      (try simp only [Act.put, List.setIfInBounds_toArray, List.set_cons_zero, List.set_cons_succ])
      refine wpS_one (i := 16) (by kernel_rfl) ?_
      refine Nxt.step rfl (fun K' hK => ?_)
      go_simp
      refine hK.out _ _ (.inr ⟨s5.bx, s5.bl⟩) ?_
      clear hK K'
      (try simp only [Act.put, List.setIfInBounds_toArray, List.set_cons_zero, List.set_cons_succ])
      refine wpS_one (i := 17) (by kernel_rfl) ?_
      refine Nxt.step rfl (fun K' hK => ?_)
      go_simp
      refine hK.out _ _ (.inr ⟨s5.bx, s5.bl⟩) ?_
      clear hK K'
      (try simp only [Act.put, List.setIfInBounds_toArray, List.set_cons_zero, List.set_cons_succ])
      refine wpS_one (i := 18) (by kernel_rfl) ?_
      have x0 := s5.bx.cell 0
      have f0 := s5.bx.frozen 0
      have x1 := s5.bx.cell 1
      have sA := s5.setX hxH hxL 0 (.slice (some ⟨g9, 0, none⟩) (n + 1) cap9)
      refine Nxt.step rfl (fun K' hK => ?_)
      go_simp
      refine hK.out _ _ (.inl (by kernel_rfl)) ?_
      clear hK K' x0 f0 x1
      (try simp only [Act.put, List.setIfInBounds_toArray, List.set_cons_zero, List.set_cons_succ])
      generalize D5.setCell ⟨x, 0, none⟩ (.slice (some ⟨g9, 0, none⟩) (n + 1) cap9) = DA at *
      refine wpS_one (i := 19) (by kernel_rfl) ?_
      refine Nxt.step rfl (fun K' hK => ?_)
      go_simp
      refine hK.out _ _ (.inl (by kernel_rfl)) ?_
      clear hK K'
      (try simp only [Act.put, List.setIfInBounds_toArray, List.set_cons_zero, List.set_cons_succ])
      refine wpS_one (i := 20) (by kernel_rfl) ?_
      refine Nxt.step rfl (fun K' hK => ?_)
      go_simp
      refine hK.out _ _ (.inl (by kernel_rfl)) ?_
      clear hK K'
      (try simp only [Act.put, List.setIfInBounds_toArray, List.set_cons_zero, List.set_cons_succ])
      refine wpS_one (i := 21) (by kernel_rfl) ?_
      have x1 := sA.bx.cell 1
      have f1 := sA.bx.frozen 1
      have sB := sA.setX hxH hxL 1 (.slice (some ⟨g15, 0, none⟩) (n + 1) cap15)
      refine Nxt.step rfl (fun K' hK => ?_)
      go_simp
      refine hK.out _ _ (.inl (by kernel_rfl)) ?_
      clear hK K' x1 f1
      (try simp only [Act.put, List.setIfInBounds_toArray, List.set_cons_zero, List.set_cons_succ])
      generalize DA.setCell ⟨x, 1, none⟩ (.slice (some ⟨g15, 0, none⟩) (n + 1) cap15) = DB at *
      refine wpS_done (by kernel_rfl) ?_ _
      have t0 : DB.cell? ⟨w.heap.size, 0, none⟩ = some (.bool false) := sB.bt.cell 0
      have t1 : DB.cell? ⟨w.heap.size, 1, none⟩ = some (.int .u64 0) := sB.bt.cell 1
      have t2 : DB.cell? ⟨w.heap.size, 2, none⟩ = some (.int .u64 0) := sB.bt.cell 2
      have u0 := sB.bt.frozen 0
      have u1 := sB.bt.frozen 1
      have u2 := sB.bt.frozen 2
      have sE := ((sB.setT hxH (by omega) (Nat.le_refl _) 0 (.bool false)).setT hxH (by omega) (Nat.le_refl _) 1 (.int .u64 ((bit : Nat) : Int))).setT hxH (by omega) (Nat.le_refl _) 2 (.int .u64 ((bit : Nat) : Int))
      have SE := Lib.hid sE
      clear sE sB sA
      go_wp2
      have sE := SE.out
      generalize ((DB.setCell ⟨w.heap.size, 0, none⟩ (.bool false)).setCell ⟨w.heap.size, 1, none⟩ (.int .u64 ((bit : Nat) : Int))).setCell ⟨w.heap.size, 2, none⟩ (.int .u64 ((bit : Nat) : Int)) = DE at *
      have z0 : DE.cell? ⟨w.heap.size, 0, none⟩ = some (.bool false) := sE.bt.cell 0
      have z1 : DE.cell? ⟨w.heap.size, 1, none⟩ = some (.int .u64 ((bit : Nat) : Int)) := sE.bt.cell 1
      have z2 : DE.cell? ⟨w.heap.size, 2, none⟩ = some (.int .u64 ((bit : Nat) : Int)) := sE.bt.cell 2
      simp [bodyPost, results, Tryd.results28, go_sem, z0, z1, z2]
      exact leaf_fin sE rfl HB2.out hn hn2 hfl CN.out
  · have s2 := s1.alloc (.cells #[.int .u64 0] 72)
    have b14 := Blk.new D #[.int .u64 0] 72
    refine Nxt.step rfl (fun K' hK => ?_)
    go_simp
    refine hK.out _ _ (.inr ⟨s2.bx, s2.bl⟩) ?_
    clear hK K'
    (try simp only [Act.put, List.setIfInBounds_toArray, List.set_cons_zero, List.set_cons_succ])
    generalize D.alloc (.cells #[.int .u64 0] 72) = D2 at *
    generalize D.heap.size = H14 at *
    refine wpS_one (i := 8) (by kernel_rfl) ?_
    have s3 := s2.alloc (.cells #[.int .u64 (wd N 0 : Nat), .int .u64 (wd N 1 : Nat), .int .u64 (wd N 2 : Nat), .int .u64 (wd N 3 : Nat)] 84)
    have b8 := Blk.new D2 #[.int .u64 (wd N 0 : Nat), .int .u64 (wd N 1 : Nat), .int .u64 (wd N 2 : Nat), .int .u64 (wd N 3 : Nat)] 84
    have b14 := b14.alloc (.cells #[.int .u64 (wd N 0 : Nat), .int .u64 (wd N 1 : Nat), .int .u64 (wd N 2 : Nat), .int .u64 (wd N 3 : Nat)] 84)
    refine Nxt.step rfl (fun K' hK => ?_)
    go_simp
    refine hK.out _ _ (.inr ⟨s3.bx, s3.bl⟩) ?_
    clear hK K'
    (try simp only [Act.put, List.setIfInBounds_toArray, List.set_cons_zero, List.set_cons_succ])
    generalize D2.alloc (.cells #[.int .u64 (wd N 0 : Nat), .int .u64 (wd N 1 : Nat), .int .u64 (wd N 2 : Nat), .int .u64 (wd N 3 : Nat)] 84) = D3 at *
    generalize D2.heap.size = H8 at *
    refine wpS_one (i := 9) (by kernel_rfl) ?_
    refine Nxt.step rfl (fun K' hK => ?_)
    refine appStep (w0 := D3) B rfl _ _ 68 84 (.agg #[.int .u64 0, .int .u64 0, .int .u64 0, .int .u64 0]) 4 32 rfl Tryd.underlying68 info84 rfl (by decide) (by decide) (.slice rA n rc) n cs H8 #[.int .u64 (wd N 0 : Nat), .int .u64 (wd N 1 : Nat), .int .u64 (wd N 2 : Nat), .int .u64 (wd N 3 : Nat)] rfl rfl rfl (by simp [Value.oneCell']) b8 s3.or_ (Below.refl _ _) s3.le HLN ?_
    intro g9 cap9 D4 os9 hb9 hg9 hat9
    have s4 := s3.appR os9 hg9 hat9
    have b14 := b14.kept hg9 (b14.not_row (by decide) s3.or_)
    refine hK.out _ _ (.inr ⟨s4.bx, s4.bl⟩) ?_
    clear hK K' hb9 hat9 hg9 os9
    (try simp only [Act.put, List.setIfInBounds_toArray, List.set_cons_zero, List.set_cons_succ])
    refine wpS_one (i := 15) (by kernel_rfl) ?_
    refine Nxt.step rfl (fun K' hK => ?_)
    refine appStep (w0 := D4) B rfl _ _ 69 72 (.int .u64 0) 1 8 rfl Tryd.underlying69 info72 rfl (by decide) (by decide) (.slice fA n fc) n us H14 #[.int .u64 0] rfl rfl rfl (by simp [Value.oneCell']) b14 s4.of_ (Below.refl _ _) s4.le HLN2 ?_
    intro g15 cap15 D5 os15 hb15 hg15 hat15
    have s5 := s4.appF os15 hg15 hat15
    refine hK.out _ _ (.inr ⟨s5.bx, s5.bl⟩) ?_
    clear hK K' hb15 hat15 hg15 os15
    (try simp only [Act.put, List.setIfInBounds_toArray, List.set_cons_zero, List.set_cons_succ])
    refine wpS_one (i := 16) (by kernel_rfl) ?_
    refine Nxt.step rfl (fun K' hK => ?_)
    go_simp
    refine hK.out _ _ (.inr ⟨s5.bx, s5.bl⟩) ?_
    clear hK K'
    (try simp only [Act.put, List.setIfInBounds_toArray, List.set_cons_zero, List.set_cons_succ])
    refine wpS_one (i := 17) (by kernel_rfl) ?_
    refine Nxt.step rfl (fun K' hK => ?_)
    go_simp
    refine hK.out _ _ (.inr ⟨s5.bx, s5.bl⟩) ?_
    clear hK K'
    (try simp only [Act.put, List.setIfInBounds_toArray, List.set_cons_zero, List.set_cons_succ])
    refine wpS_one (i := 18) (by kernel_rfl) ?_
    have x0 := s5.bx.cell 0
    have f0 := s5.bx.frozen 0
    have x1 := s5.bx.cell 1
    have sA := s5.setX hxH hxL 0 (.slice (some ⟨g9, 0, none⟩) (n + 1) cap9)
    refine Nxt.step rfl (fun K' hK => ?_)
    go_simp
    refine hK.out _ _ (.inl (by kernel_rfl)) ?_
    clear hK K' x0 f0 x1
    (try simp only [Act.put, List.setIfInBounds_toArray, List.set_cons_zero, List.set_cons_succ])
    generalize D5.setCell ⟨x, 0, none⟩ (.slice (some ⟨g9, 0, none⟩) (n + 1) cap9) = DA at *
    refine wpS_one (i := 19) (by kernel_rfl) ?_
    refine Nxt.step rfl (fun K' hK => ?_)
    go_simp
    refine hK.out _ _ (.inl (by kernel_rfl)) ?_
    clear hK K'
    (try simp only [Act.put, List.setIfInBounds_toArray, List.set_cons_zero, List.set_cons_succ])
    refine wpS_one (i := 20) (by kernel_rfl) ?_
    refine Nxt.step rfl (fun K' hK => ?_)
    go_simp
    refine hK.out _ _ (.inl (by kernel_rfl)) ?_
    clear hK K'
    (try simp only [Act.put, List.setIfInBounds_toArray, List.set_cons_zero, List.set_cons_succ])
    refine wpS_one (i := 21) (by kernel_rfl) ?_
    have x1 := sA.bx.cell 1
    have f1 := sA.bx.frozen 1
    have sB := sA.setX hxH hxL 1 (.slice (some ⟨g15, 0, none⟩) (n + 1) cap15)
    refine Nxt.step rfl (fun K' hK => ?_)
    go_simp
    refine hK.out _ _ (.inl (by kernel_rfl)) ?_
    clear hK K' x1 f1
    (try simp only [Act.put, List.setIfInBounds_toArray, List.set_cons_zero, List.set_cons_succ])
    generalize DA.setCell ⟨x, 1, none⟩ (.slice (some ⟨g15, 0, none⟩) (n + 1) cap15) = DB at *
    refine wpS_done (by kernel_rfl) ?_ _
    have t0 : DB.cell? ⟨w.heap.size, 0, none⟩ = some (.bool false) := sB.bt.cell 0
    have t1 : DB.cell? ⟨w.heap.size, 1, none⟩ = some (.int .u64 0) := sB.bt.cell 1
    have t2 : DB.cell? ⟨w.heap.size, 2, none⟩ = some (.int .u64 0) := sB.bt.cell 2
    have u0 := sB.bt.frozen 0
    have u1 := sB.bt.frozen 1
    have u2 := sB.bt.frozen 2
    have sE := ((sB.setT hxH (by omega) (Nat.le_refl _) 0 (.bool false)).setT hxH (by omega) (Nat.le_refl _) 1 (.int .u64 ((bit : Nat) : Int))).setT hxH (by omega) (Nat.le_refl _) 2 (.int .u64 ((bit : Nat) : Int))
    have SE := Lib.hid sE
    clear sE sB sA
    go_wp2
    have sE := SE.out
    generalize ((DB.setCell ⟨w.heap.size, 0, none⟩ (.bool false)).setCell ⟨w.heap.size, 1, none⟩ (.int .u64 ((bit : Nat) : Int))).setCell ⟨w.heap.size, 2, none⟩ (.int .u64 ((bit : Nat) : Int)) = DE at *
    have z0 : DE.cell? ⟨w.heap.size, 0, none⟩ = some (.bool false) := sE.bt.cell 0
    have z1 : DE.cell? ⟨w.heap.size, 1, none⟩ = some (.int .u64 ((bit : Nat) : Int)) := sE.bt.cell 1
    have z2 : DE.cell? ⟨w.heap.size, 2, none⟩ = some (.int .u64 ((bit : Nat) : Int)) := sE.bt.cell 2
    simp [bodyPost, results, Tryd.results28, go_sem, z0, z1, z2]
    exact leaf_fin sE rfl HB2.out hn hn2 hfl CN.out
end Go.Proofs.YtlocogccjlecjaaDoor
