import Derived.Test.YtlcgkdhcdldlfaaDoorBelow
import Derived.Test.YtlcgkdhcdldlfaaDoorExactP
import Derived.Test.YtlcgkdhcdldlfaaDoorCleanX
import Derived.Test.YtlcgkdhcdldlfaaDoorLive
namespace Go.Proofs.YtlcgkdhcdldlfaaDoor
open Go.RowKit

/-- a text as one number -/
def foldU (l : List Int) : Int := l.foldl (fun h x => mixI (IntKind.u64.wrap (h + IntKind.u64.wrap x))) 1
theorem foldU_snoc (l : List Int) (x : Int) : foldU (l ++ [x]) = mixI (IntKind.u64.wrap (foldU l + IntKind.u64.wrap x)) := by simp [foldU]
theorem foldU_in (l : List Int) : InU (foldU l) := by
  rcases List.eq_nil_or_concat l with rfl | ⟨l, x, rfl⟩
  · exact ⟨by decide, by decide⟩
  · rw [List.concat_eq_append, foldU_snoc]
    exact mixI_in _
theorem xor_in {a b : Int} (ha : InU a) (hb : InU b) : InU (bits .xor .u64 a b) := by
  obtain ⟨n, rfl, hn⟩ := ha.nat
  obtain ⟨m, rfl, hm⟩ := hb.nat
  rw [bits_xor_u64_nat n m hn hm]
  exact inU_nat _ (Nat.xor_lt_two_pow (n := 64) hn hm)
/-- a function of texts -/
def chooseF (seed : Int) (v : Nat) (l : List Int) : Int := hiI (mixI (bits .xor .u64 (foldU l) seed)) (v : Int)
theorem chooseF_in (seed : Int) (v : Nat) (hv : v ≤ 9) (l : List Int) : 0 ≤ chooseF seed v l ∧ chooseF seed v l ≤ 9 := by
  unfold chooseF
  obtain ⟨a, ha, hl⟩ := (mixI_in (bits .xor .u64 (foldU l) seed)).nat
  rw [ha]
  have := PureDraw.high_le a v hl
  unfold hiI
  rw [Int.toNat_natCast, Int.toNat_natCast]
  generalize a * v / PureDraw.M = q at *
  omega

set_option maxRecDepth 100000 in
set_option maxHeartbeats 1000000 in
/-- fold -/
theorem fold_any (A : Option Addr) (n c : Nat) (l : List Int) (w : World) (hl : l.length = n) (hm : n ≤ 140737488355328) (hx : Rd w A (I64 l)) (ht : Table w) :
    Calls Tryd.prog 17 #[.slice A n c] w fun e w' => e = .returned (.int .u64 (foldU l)) ∧ Below w.heap.size w w' := by
  go_enter Tryd.func17, Tryd.ntmps17
  go_wp2
  go_loopw [3, 4] (fun h i wr => ∃ k : Nat, k ≤ n ∧ i = .int .i64 (k : Int) ∧ h = .int .u64 (foldU (l.take k)) ∧ Below w.heap.size w wr) (fun _ i _ => n - (intOf i).toNat)
  case atStart => exact ⟨0, by omega, rfl, rfl, Below.refl _ _⟩
  case round =>
    obtain ⟨k, hk, rfl, rfl, hb⟩ := hrel
    by_cases hlt : k < n
    · obtain ⟨b, o, rfl, y0⟩ := (hx.below hb).i64 k (by omega)
      have ea := addr_add b o k
      have FS := Lib.hid (show foldU (l.take (k + 1)) = mixI (IntKind.u64.wrap (foldU (l.take k) + IntKind.u64.wrap (l[k]'(by omega)))) by rw [List.take_succ_eq_append_getElem (by omega), foldU_snoc])
      generalize foldU (l.take k) = h at *
      generalize l[k]'(by omega) = x at *
      go_wp2_with fail
      refine (mix_any _ (wrap_in _) wr (ht.below hb)).mono ?_
      rintro e w1 ⟨rfl, hb1⟩
      replace hb := bthen hb hb1
      go_wp2
      go_roundw
      case rel => exact ⟨k + 1, by omega, by go_num, by rw [FS.out], hb⟩
      case measure => simp [intOf]; omega
    · have HF := Lib.hid (show foldU (l.take k) = foldU l by rw [List.take_of_length_le (by omega)])
      go_wp2
      go_returns
      exact ⟨by rw [HF.out]; rfl, hb⟩

set_option maxRecDepth 100000 in
set_option maxHeartbeats 1000000 in
/-- chooses -/
theorem chooses_any (A : Option Addr) (n c v : Nat) (seed : Int) (l : List Int) (w : World) (hs : InU seed) (hv : v ≤ 9) (hl : l.length = n) (hm : n ≤ 140737488355328) (hx : Rd w A (I64 l)) (ht : Table w) :
    Calls Tryd.prog 7 #[.int .u64 seed, .int .i64 (v : Int), .slice A n c] w fun e w' => e = .returned (.int .i64 (chooseF seed v l)) ∧ Below w.heap.size w w' := by
  have hv1 : IntKind.u64.wrap (v : Int) = (v : Int) := by rw [IntKind.wrap_u64]; omega
  have hc := chooseF_in seed v hv l
  have hr : IntKind.i64.wrap (chooseF seed v l) = chooseF seed v l := IntWalk.i64_in _ (by omega)
  have HF := Lib.hid (show chooseF seed v l = hiI (mixI (bits .xor .u64 (foldU l) seed)) (v : Int) from rfl)
  go_enter Tryd.func7, Tryd.ntmps7
  go_wp2_with fail
  refine (fold_any A n c l w hl hm hx ht).mono ?_
  rintro e w1 ⟨rfl, hb⟩
  go_wp2_with fail
  refine (mix_any _ (xor_in (foldU_in l) hs) w1 (ht.below hb)).mono ?_
  rintro e w2 ⟨rfl, hb1⟩
  replace hb := bthen hb hb1
  go_wp2_with fail
  refine (below_any _ (v : Int) (mixI_in _) (inU_nat v (by omega)) w2).mono ?_
  rintro e w3 ⟨rfl, hb2⟩
  replace hb := bthen hb hb2
  rw [← HF.out]
  generalize hz : chooseF seed v l = z at *
  have HZ := Lib.hid hz
  clear hz
  go_wp2
  go_returns
  exact ⟨by rw [HZ.out]; rfl, hb⟩

/-- 2 to 9 -/
def Few (w : World) (e : Ending) (w' : World) : Prop := ∃ v : Nat, 2 ≤ v ∧ v ≤ 9 ∧ e = .returned (.int .i64 (v : Int)) ∧ w = w'
theorem Few.mk {w : World} {x : Int} (h1 : 2 ≤ x) (h2 : x ≤ 9) : Few w (.returned (.int .i64 x)) w := ⟨x.toNat, by omega, by omega, by rw [Int.toNat_of_nonneg (by omega)], rfl⟩
set_option maxRecDepth 100000 in
set_option maxHeartbeats 400000 in
/-- few -/
theorem few_any (n : Int) (w : World) : Calls Tryd.prog 5 #[.int .i64 n] w (Few w) := by
  have h1 : -7 ≤ n.tmod 8 ∧ n.tmod 8 ≤ 7 := by
    have h2 : (n.tmod 8).natAbs = n.natAbs % (8 : Int).natAbs := Int.natAbs_tmod n 8
    rw [show (8 : Int).natAbs = 8 from rfl] at h2
    omega
  by_cases h : n.tmod 8 < 0
  · go_enter Tryd.func5, Tryd.ntmps5
    go_wp2
    go_returns
    exact Few.mk (by omega) (by omega)
  · go_enter Tryd.func5, Tryd.ntmps5
    go_wp2
    go_returns
    exact Few.mk (by omega) (by omega)

theorem nats_at (l : List Nat) (k : Nat) (h : k < l.length) : (nats l)[k]'(by rw [nats_length]; exact h) = (gv l k : Int) := by
  simp [nats, gv, h]
theorem nats_cell {w : World} {b o : Nat} {l : List Nat} (h : Rd w (some ⟨b, o, none⟩) (I64 (nats l))) (k : Nat) (hk : k < l.length) : w.cell? ⟨b, o + k, none⟩ = some (.int .i64 (gv l k : Int)) := by
  rw [h.i64At k (by rw [nats_length]; exact hk), nats_at l k hk]
theorem behindL_len {t : List Nd} (hT : isT t) {i : Nat} (hi : i < t.length) : (behindL t i).length ≤ 31 := by
  have := (pathT_ok hT i hi).1
  have := hT.2.1
  simp [behindL]
  omega
set_option maxRecDepth 100000 in
set_option maxHeartbeats 2000000 in
/-- behind -/
theorem behind_any (A B : Option Addr) (n c m d i : Nat) (l : List Int) (t : List Nd) (w : World) (hl : l.length = n) (hm : n * 8 ≤ 140737488351232) (hx : Rd w A (I64 l)) (hT : isT t) (hl2 : t.length = m) (hi : i < m) (hy : Rd w B (NC t)) :
    Calls Tryd.prog 8 #[.slice A n c, .slice B m d, .int .i64 (i : Int)] w fun e w' => ∃ u, e = .returned u ∧ w'.ownsRow w.heap.size 3 1 u (l ++ behindL t i).length (I64 (l ++ behindL t i)) ∧ Below w.heap.size w w' := by
  have h32 := hT.2.1
  go_enter Tryd.func8, Tryd.ntmps8
  go_wp2_with fail
  refine (copyInts_any A n c l hl (by omega) w hx).mono ?_
  rintro e w1 ⟨u, rfl, ou, hb⟩
  obtain ⟨uA, uc, rfl, _, _⟩ := own_rd ou
  go_wp2_with fail
  refine (way14_any B m d t hT hl2 i hi w1 (hy.below hb)).mono ?_
  rintro e w2 ⟨p, rfl, op, hb1⟩
  have ul : ∀ g, blk uA = some g → w.heap.size ≤ g ∧ g < w1.heap.size := fun g hg => own_lt ou g ((own_blk uA n uc).trans hg)
  replace ou := own_below ou hb1
  replace hb := bthen hb hb1
  obtain ⟨pA, pc, rfl, _, _⟩ := own_rd op
  have rp := own_rb op
  obtain ⟨po, pm, po2⟩ := pathT_ok hT i (by omega)
  have pos : 1 ≤ (pathT t i).length := by obtain ⟨_, h⟩ := po2; rw [h]; simp
  have PM := Lib.hid pm
  have BH := Lib.hid (show behindL t i = ((pathT t i).drop 1).map (tk t) from rfl)
  clear op hb1 pm po2
  generalize pathT t i = L at *
  generalize hll : L.length = q at *
  have HL := Lib.hid hll
  clear hll
  have TK := Lib.hid (fun k (h1 : 1 ≤ k) (h : k < q) => (show ((L.drop 1).map (tk t)).take k = ((L.drop 1).map (tk t)).take (k - 1) ++ [tk t (gv L k)] by
    obtain ⟨k, rfl⟩ : ∃ j, k = j + 1 := ⟨k - 1, by omega⟩
    rw [Nat.add_sub_cancel, List.take_succ_eq_append_getElem (by simp; have := HL.out; omega)]
    congr 2
    simp only [List.getElem_map, List.getElem_drop]
    rw [gv_get L (1 + k) (by have := HL.out; omega), Nat.add_comm]))
  have TL := Lib.hid (show (L.drop 1).map (tk t) = ((L.drop 1).map (tk t)).take (q - 1) by rw [List.take_of_length_le]; simp; have := HL.out; omega)
  rw [← BH.out] at TK TL
  have CL := Lib.hid (show (behindL t i).length = q - 1 by rw [BH.out]; simp; have := HL.out; omega)
  generalize hbk : behindL t i = bk at *
  have HBK := Lib.hid hbk
  clear hbk
  go_wp2
  go_loopw [7, 9] (fun u i wr => ∃ k : Nat, 1 ≤ k ∧ k ≤ q ∧ i = .int .i64 (k : Int) ∧ wr.ownsRow w.heap.size 3 1 u (n + (k - 1)) (I64 (l ++ bk.take (k - 1))) ∧ Below w.heap.size w wr ∧ w2.grownBy wr (blk uA) ∧ (u.ownBlock = blk uA ∨ ∀ g, u.ownBlock = some g → w2.heap.size ≤ g)) (fun _ i _ => q - (intOf i).toNat)
  case atStart => exact ⟨1, by omega, by omega, rfl, by simpa using ou, hb, grown_refl _ _, .inl (own_blk _ _ _)⟩
  case round =>
    clear ou
    obtain ⟨k, hk1, hk, rfl, ou, hb3, hg3, hf3⟩ := hrel
    obtain ⟨uA', uc', rfl, _, _⟩ := own_rd ou
    by_cases hlt : k < q
    · have hkq : (k : Int) < (q : Int) := by omega
      have rp3 := (rp.grown hg3 (fun g hg => .inl (ul g hg).2)).rd
      obtain ⟨b, o, rfl⟩ := rp3.start (by rw [I64_length, nats_length, HL.out]; omega)
      have c0 := nats_cell rp3 k (by rw [HL.out]; exact hlt)
      have mx : gv L k < m := by
        have := PM.out (gv L k) (by rw [← gv_get L k (by rw [HL.out]; exact hlt)]; exact List.getElem_mem _)
        omega
      have TK0 := Lib.hid (TK.out k hk1 hlt)
      obtain ⟨b2, o2, rfl, _, u1, _⟩ := (hy.below hb3).nd (gv L k) (by omega)
      have e1 := addr_add b o k
      have e3 := addr_add b2 o2 (gv L k * 3)
      have e4 := addr_add b2 (o2 + gv L k * 3) 1
      have i1 : ((gv L k : Nat) : Int) < (m : Int) := by omega
      have ek : n + (k + 1 - 1) = n + (k - 1) + 1 := by omega
      have EK := Lib.hid ek
      clear ek
      generalize tk t (gv L k) = X at *
      generalize gv L k = x at *
      go_wp2_with (at_builtin; refine app (w0 := w) w.heap.size rfl _ _ 23 3 (.int .i64 0) 1 8 rfl Tryd.underlying23 info3 rfl (by decide) (by decide) (.slice uA' (n + (k - 1)) uc') (n + (k - 1)) (I64 (l ++ bk.take (k - 1))) #[.int .i64 X] rfl rfl rfl (by simp [Value.oneCell']) ou hb3 hb3.size (by omega) ?_; intro g cap w4 ow hb4 hg4 hat4)
      go_roundw
      case rel =>
        have sz := hg3.size
        refine ⟨k + 1, by omega, by omega, by go_num, ?_, hb4, grown_step hg3 hg4 hf3, ?_⟩
        rotate_left
        · rcases hat4 with h | h
          · rcases hf3 with h3 | h3
            · exact .inl (h.trans h3)
            · exact .inr fun g' hg' => h3 g' (h.symm.trans hg')
          · refine .inr fun g' hg' => ?_
            have : g = g' := by simpa [Value.ownBlock] using hg'
            omega
        rw [EK.out, Nat.add_sub_cancel, TK0.out, ← List.append_assoc, ← I64_snoc]
        exact ow
      case measure => simp [intOf]; omega
    · obtain rfl : k = q := by omega
      go_wp2
      go_returns
      refine ⟨_, rfl, ?_, hb3⟩
      rw [HBK.out, List.length_append, CL.out, hl]
      rw [← TL.out] at ou
      exact ou
theorem wfN_clean (root : Int) (r : List RNd) (v : Int) (h1 : (Lit.int .i64 root).wf = true) (hv : v ≤ 1099511627776) : WfN (cleanT root r v) := by
  intro i hi
  have hT := cleanT_tree root r v
  have h32 := hT.2.1
  rcases Nat.eq_zero_or_pos i with rfl | h0
  · exact ⟨by rw [hT.2.2.1]; decide, h1, by rw [hT.2.2.2.1]; decide⟩
  · obtain ⟨g1, g2, g3, _⟩ := hT.2.2.2.2 i hi h0
    have gd := (dep_le (cleanT root r v) hT.2.2.2.1 (cleanT root r v).length (fun j hj h => hT.2.2.2.2 j hj h)) i hi
    have gt : tk (cleanT root r v) i < 1099511627776 := by
      obtain ⟨i, rfl⟩ : ∃ j, i = j + 1 := ⟨i - 1, by omega⟩
      have hl : (cleanT root r v).length = min 31 (waysR r v).length + 1 := cleanL_length _ _ _
      have e : tk (cleanT root r v) (i + 1) = (cleanN (waysR r v) i).2.1 := by
        unfold tk cleanT
        rw [cleanL_at root _ _ i (by omega)]
      have hiw : i < (waysR r v).length := by omega
      obtain ⟨a1, _, _⟩ := above (r := r) (v := v) hiw
      obtain ⟨j, _, hg, he⟩ := (waysR_ok r v).good _ (getD_mem hiw)
      have hlt := wayR_lt r v j hg
      rw [he] at hlt
      rw [e]
      refine Int.lt_of_lt_of_le (hlt _ ?_) hv
      show ((waysR r v).getD i []).getD (((waysR r v).getD i []).length - 1) 0 ∈ _
      generalize (waysR r v).getD i [] = W at a1 ⊢
      have e2 : W.getD (W.length - 1) 0 = W[W.length - 1]'(by omega) := by simp [show W.length - 1 < W.length by omega]
      rw [e2]
      exact List.getElem_mem _
    exact ⟨WalkArith.wf_i64 (by omega), WalkArith.wf_i64 (by omega), WalkArith.wf_i64 (by omega)⟩

/-- the child of a node with a token; 0: there is none -/
def kid0 (t : List Nd) (a : Nat) (x : Int) : Nat := (kid t a x).getD 0
theorem kid0_some {t : List Nd} {a k : Nat} {x : Int} (h : kid t a x = some k) : kid0 t a x = k := by simp [kid0, h]
theorem kid0_none {t : List Nd} {a : Nat} {x : Int} (h : kid t a x = none) : kid0 t a x = 0 := by simp [kid0, h]
set_option maxRecDepth 100000 in
set_option maxHeartbeats 1000000 in
/-- kid -/
theorem kid_any (A : Option Addr) (n c a : Nat) (x : Int) (t : List Nd) (w : World) (hT : isT t) (hl : t.length = n) (hx : Rd w A (NC t)) :
    Calls Tryd.prog 12 #[.slice A n c, .int .i64 (a : Int), .int .i64 x] w fun e w' => e = .returned (.int .i64 (kid0 t a x : Int)) ∧ Below w.heap.size w w' := by
  have h32 := hT.2.1
  have n0 := hT.1
  go_enter Tryd.func12, Tryd.ntmps12
  go_wp2
  go_loopw [7] (fun i wr => ∃ k : Nat, 1 ≤ k ∧ k ≤ n ∧ i = .int .i64 (k : Int) ∧ (∀ j, j < k → ¬ isKid t a x j) ∧ Below w.heap.size w wr) (fun i _ => n - (intOf i).toNat)
  case atStart => exact ⟨1, by omega, by omega, rfl, fun j hj => noKid hT x (by omega) (by omega), Below.refl _ _⟩
  case round =>
    obtain ⟨k, hk1, hk, rfl, hno, hb⟩ := hrel
    have NO := Lib.hid hno
    clear hno
    by_cases hlt : k < n
    · obtain ⟨b, o, rfl, u0, u1, u2⟩ := (hx.below hb).nd k (by omega)
      have ea := addr_add b o (k * 3)
      have ea1 := addr_add b (o + k * 3) 1
      have nx : ¬ isKid t a x k → ∀ j, j < k + 1 → ¬ isKid t a x j := fun h j hj => by
        rcases Nat.lt_or_ge j k with h2 | h2
        · exact NO.out j h2
        · obtain rfl : j = k := by omega
          exact h
      by_cases e1 : par t k = (a : Int)
      · by_cases e2 : tk t k = x
        · have H0 := Lib.hid (kid0_some (kid_some.2 ⟨by omega, ⟨e1, e2⟩, NO.out⟩))
          rw [e1] at u0
          rw [e2] at u1
          clear nx e1 e2
          go_wp2
          go_returns
          exact ⟨by rw [H0.out]; rfl, hb⟩
        · have NX := Lib.hid (nx (fun h => e2 h.2))
          rw [e1] at u0
          clear nx e1
          generalize tk t k = Y at *
          have hne : (Y == x) = false := by simpa using e2
          clear e2
          go_wp2
          go_roundw
          case rel => exact ⟨k + 1, by omega, by omega, by go_num, NX.out, hb⟩
          case measure => simp [intOf]; omega
      · have NX := Lib.hid (nx (fun h => e1 h.1))
        clear nx
        generalize par t k = Y at *
        have hne : (Y == (a : Int)) = false := by simpa using e1
        clear e1
        go_wp2
        go_roundw
        case rel => exact ⟨k + 1, by omega, by omega, by go_num, NX.out, hb⟩
        case measure => simp [intOf]; omega
    · have H0 := Lib.hid (kid0_none (kid_none.2 (fun j hj => NO.out j (by omega))))
      go_wp2
      go_returns
      exact ⟨by rw [H0.out]; rfl, hb⟩
end Go.Proofs.YtlcgkdhcdldlfaaDoor
