import Derived.Test.YtlcgkdhcdldlfaaMoveP
import Derived.Deep.DeepCutAuto
namespace Go.Proofs.Ytlcgkdhcdldlfaa
open Go.RowKit

theorem ne_step {gv : Option Nat} {v : Value} {N g : Nat} (h : gv = none ∨ gv ≠ v.ownBlock) (hat : some g = v.ownBlock ∨ g = N + 1) (hlt : ∀ j, gv = some j → j < N + 1) : gv = none ∨ gv ≠ some g := by
  rcases h with h | h
  · exact .inl h
  · refine .inr fun he => ?_
    rcases hat with h1 | h1
    · exact h (he.trans h1)
    · have := hlt g he
      omega
theorem ne_sym {a b : Option Nat} (h : a = none ∨ a ≠ b) : b = none ∨ b ≠ a := by
  cases b with
  | none => exact .inl rfl
  | some q =>
    refine .inr fun he => ?_
    rcases h with h | h
    · rw [h] at he; cases he
    · exact h he.symm

set_option maxRecDepth 100000 in
set_option maxHeartbeats 8000000 in
/-- JudgeMoves -/
theorem judgeMoves_any (A : Option Addr) (m c : Nat) (way : List Int) (sl fi go : Int) (w : World) (hl : way.length = m) (hm : m * 8 ≤ 140737488351232) (hx : Rd w A (I64 way)) :
    Calls Try.prog 8 #[.slice A m c, .int .i64 sl, .int .i64 fi, .int .i64 go] w fun e w' => e = .returned (.bool true) ∧ Below w.heap.size w w' := by
  have R1 : Hid (-40 < sl.tmod 40 ∧ sl.tmod 40 < 40) := Lib.hid (tmod_in sl 40 (by omega))
  have R2 : Hid (-100 < fi.tmod 100 ∧ fi.tmod 100 < 100) := Lib.hid (tmod_in fi 100 (by omega))
  have R3 : Hid (-100 < go.tmod 100 ∧ go.tmod 100 < 100) := Lib.hid (tmod_in go 100 (by omega))
  go_enter Try.func8, Try.ntmps8
  go_wp2_with fail
  refine (works_any w).mono ?_
  rintro e w1 ⟨rfl, hb1⟩
  go_upto_if 32 with fail
  go_cut [10] (fun s wx => ∃ k : Nat, k < 40 ∧ s = .int .i64 (k : Int) ∧ w1 = wx)
  case first =>
    as_aux_lemma =>
      have r := R1.out
      by_cases h : sl.tmod 40 < 0
      · have hw : IntKind.i64.wrap (sl.tmod 40 + 40) = sl.tmod 40 + 40 := IntWalk.i64_in _ (by omega)
        go_wp2
        go_meet
        exact ⟨(sl.tmod 40 + 40).toNat, by omega, by rw [Int.toNat_of_nonneg (by omega)], rfl⟩
      · go_wp2
        go_meet
        exact ⟨(sl.tmod 40).toNat, by omega, by rw [Int.toNat_of_nonneg (by omega)], rfl⟩
  case rest =>
    obtain ⟨k, hk, rfl, rfl⟩ := hcut
    clear R1
    go_upto_if 42 with fail
    go_cut [10, 11] (fun s0 s wx => ∃ n a : Nat, 1 ≤ n ∧ n ≤ 40 ∧ a < 100 ∧ s0 = .int .i64 (n : Int) ∧ s = .int .i64 (a : Int) ∧ w1 = wx)
    case first =>
      as_aux_lemma =>
        have r := R2.out
        by_cases h : fi.tmod 100 < 0
        · have hw : IntKind.i64.wrap (-(fi.tmod 100)) = -(fi.tmod 100) := IntWalk.i64_in _ (by omega)
          go_wp2
          go_meet
          exact ⟨k + 1, (-(fi.tmod 100)).toNat, by omega, by omega, by omega, by go_num, by rw [Int.toNat_of_nonneg (by omega)], rfl⟩
        · go_wp2
          go_meet
          exact ⟨k + 1, (fi.tmod 100).toNat, by omega, by omega, by omega, by go_num, by rw [Int.toNat_of_nonneg (by omega)], rfl⟩
    case rest =>
      obtain ⟨n, a, hn1, hn40, ha, rfl, rfl, rfl⟩ := hcut
      clear R2
      go_upto_if 46 with fail
      go_cut [12] (fun s wx => ∃ b : Nat, b < 100 ∧ s = .int .i64 (b : Int) ∧ w1 = wx)
      case first =>
        as_aux_lemma =>
          have r := R3.out
          by_cases h : go.tmod 100 < 0
          · have hw : IntKind.i64.wrap (-(go.tmod 100)) = -(go.tmod 100) := IntWalk.i64_in _ (by omega)
            go_wp2
            go_meet
            exact ⟨(-(go.tmod 100)).toNat, by omega, by rw [Int.toNat_of_nonneg (by omega)], rfl⟩
          · go_wp2
            go_meet
            exact ⟨(go.tmod 100).toNat, by omega, by rw [Int.toNat_of_nonneg (by omega)], rfl⟩
      case rest =>
        obtain ⟨b, hbb, rfl, rfl⟩ := hcut
        clear R3
        go_wp2
        go_loopw [13, 16] (fun v i wr => ∃ k : Nat, k ≤ n ∧ i = .int .i64 (k : Int) ∧ wr.ownsRow w.heap.size 3 1 v k (I64 (seqI a k)) ∧ Below w.heap.size w wr) (fun _ i _ => n - (intOf i).toNat)
        case atStart => exact ⟨0, by omega, rfl, World.ownsRow_nil _ _ _ _, hb1⟩
        case round =>
          as_aux_lemma =>
            clear hb1
            obtain ⟨k, hkn, rfl, ho, hb⟩ := hrel
            obtain ⟨va, vc, rfl, _, _⟩ := own_rd ho
            by_cases hlt : k < n
            · have hw : IntKind.i64.wrap ((a : Int) + (k : Int)) = (a : Int) + (k : Int) := IntWalk.i64_in _ (by omega)
              go_wp2_with (at_builtin; refine app (w0 := w) w.heap.size rfl _ _ 23 3 (.int .i64 0) 1 8 rfl Try.underlying23 info3 rfl (by decide) (by decide) (.slice va k vc) k (I64 (seqI a k)) #[.int .i64 ((a : Int) + (k : Int))] rfl rfl rfl (by simp [Value.oneCell']) ho hb hb.size (by omega) ?_; intro g2 cap w5 ow hb5 hg5 hat5)
              go_roundw
              case rel =>
                refine ⟨k + 1, by omega, by go_num, ?_, hb5⟩
                rw [seqI_succ, ← I64_snoc, show ((a + k : Nat) : Int) = (a : Int) + (k : Int) by omega]
                exact ow
              case measure => simp [intOf]; omega
            · obtain rfl : n = k := by omega
              have F0 := own_rdA ho
              clear ho
              obtain ⟨w3, rfl⟩ : ∃ w3 : World, w3 = wr := ⟨_, rfl⟩
              go_wp2
              have F1 := Lib.hid F0
              have B1 := Lib.hid hb
              clear F0 hb
              go_loopw [14, 15, 17, 18] (fun gv wv' i _ wr => ∃ k : Nat, k ≤ m ∧ k ≤ n ∧ i = .int .i64 (k : Int) ∧ wr.ownsRow w3.heap.size 3 1 gv k (I64 (seqI b k)) ∧ wr.ownsRow w3.heap.size 3 1 wv' k (I64 (wl n way k)) ∧ (gv.ownBlock = none ∨ gv.ownBlock ≠ wv'.ownBlock) ∧ Below w3.heap.size w3 wr) (fun _ _ i _ _ => n - (intOf i).toNat)
              case atStart => exact ⟨0, by omega, by omega, rfl, World.ownsRow_nil _ _ _ _, World.ownsRow_nil _ _ _ _, .inl rfl, Below.refl _ _⟩
              case round =>
                as_aux_lemma =>
                  obtain ⟨k, hkm, hkn2, rfl, hg, how, hne, hb⟩ := hrel
                  obtain ⟨ga, gc, rfl, _, _⟩ := own_rd hg
                  obtain ⟨wa, wc, rfl, hwc, _⟩ := own_rd how
                  by_cases hcc : k < m ∧ k < n
                  · obtain ⟨hlt1, hlt2⟩ := hcc
                    · obtain ⟨b0, o0, rfl, y0⟩ := (hx.below (bthen B1.out hb)).i64 k (by omega)
                      have ea := addr_add b0 o0 k
                      rw [wv_get way k (by omega)] at y0
                      have W1 := Lib.hid (wl_succ (n := n) (show k < way.length by omega))
                      have MN := Lib.hid (mdN_neg (n := n) (x := wv way k) (by omega))
                      have MP := Lib.hid (mdN_pos (n := n) (x := wv way k))
                      have hmd := mdN_lt (n := n) (x := wv way k) (by omega)
                      have hn0 : ((n : Int) == 0) = false := by simpa using (show (n : Int) ≠ 0 by omega)
                      have hn0' : (n : Int) ≠ 0 := by omega
                      have hwb : IntKind.i64.wrap ((b : Int) + (k : Int)) = (b : Int) + (k : Int) := IntWalk.i64_in _ (by omega)
                      have hki : (k : Int) < (m : Int) := by omega
                      have fresh : ∀ j, (Value.slice ga k gc).ownBlock = some j → j < wr.heap.size := fun j hj => (own_lt hg j hj).2
                      by_cases hz : (wv way k).tmod n < 0
                      · have hmn := MN.out hz
                        have hwn : IntKind.i64.wrap ((wv way k).tmod n + (n : Int)) = (mdN n (wv way k) : Int) := by rw [hmn]; exact IntWalk.i64_in _ (by omega)
                        have htr := tmod_in (wv way k) n (by omega)
                        clear MN MP hmn
                        generalize hq : mdN n (wv way k) = q at *
                        generalize wv way k = z at *
                        clear hq
                        go_wp2_with (first 
                          | (at_builtin; refine app (w0 := w3) w3.heap.size rfl _ _ 23 3 (.int .i64 0) 1 8 rfl Try.underlying23 info3 rfl (by decide) (by decide) (.slice wa k wc) k (I64 (wl n way k)) #[.int .i64 (q : Int)] rfl rfl rfl (by simp [Value.oneCell']) how hb hb.size (by omega) ?_; intro g6 cap6 w6 ow6 hb6 hg6 hat6; have hg1 := World.ownsRow.kept hg hg6 hne; have hne6 := ne_step hne hat6 (fun j hj => by have := fresh j hj; omega); clear how hb hne fresh)
                          | (at_builtin; refine app (w0 := w3) w3.heap.size rfl _ _ 23 3 (.int .i64 0) 1 8 rfl Try.underlying23 info3 rfl (by decide) (by decide) (.slice ga k gc) k (I64 (seqI b k)) #[.int .i64 ((b : Int) + (k : Int))] rfl rfl rfl (by simp [Value.oneCell']) hg1 hb6 hb6.size (by omega) ?_; intro g7 cap7 w7 ow7 hb7 hg7 hat7; have how7 := World.ownsRow.kept ow6 hg7 (ne_sym hne6); have hne7 := ne_sym (ne_step (ne_sym hne6) hat7 (fun j hj => by have := (own_lt ow6 j hj).2; omega))))
                        go_roundw
                        case rel =>
                          refine ⟨k + 1, by omega, by omega, by go_num, ?_, ?_, hne7, hb7⟩
                          · rw [seqI_succ, ← I64_snoc, show ((b + k : Nat) : Int) = (b : Int) + (k : Int) by omega]
                            exact ow7
                          · rw [W1.out, ← I64_snoc]
                            exact how7
                        case measure => simp [intOf]; omega
                      · have hmn := MP.out hz
                        clear MN MP
                        generalize mdN n (wv way k) = q at *
                        generalize wv way k = z at *
                        go_wp2_with (first 
                          | (at_builtin; refine app (w0 := w3) w3.heap.size rfl _ _ 23 3 (.int .i64 0) 1 8 rfl Try.underlying23 info3 rfl (by decide) (by decide) (.slice wa k wc) k (I64 (wl n way k)) #[.int .i64 (q : Int)] rfl rfl rfl (by simp [Value.oneCell']) how hb hb.size (by omega) ?_; intro g6 cap6 w6 ow6 hb6 hg6 hat6; have hg1 := World.ownsRow.kept hg hg6 hne; have hne6 := ne_step hne hat6 (fun j hj => by have := fresh j hj; omega); clear how hb hne fresh)
                          | (at_builtin; refine app (w0 := w3) w3.heap.size rfl _ _ 23 3 (.int .i64 0) 1 8 rfl Try.underlying23 info3 rfl (by decide) (by decide) (.slice ga k gc) k (I64 (seqI b k)) #[.int .i64 ((b : Int) + (k : Int))] rfl rfl rfl (by simp [Value.oneCell']) hg1 hb6 hb6.size (by omega) ?_; intro g7 cap7 w7 ow7 hb7 hg7 hat7; have how7 := World.ownsRow.kept ow6 hg7 (ne_sym hne6); have hne7 := ne_sym (ne_step (ne_sym hne6) hat7 (fun j hj => by have := (own_lt ow6 j hj).2; omega))))
                        go_roundw
                        case rel =>
                          refine ⟨k + 1, by omega, by omega, by go_num, ?_, ?_, hne7, hb7⟩
                          · rw [seqI_succ, ← I64_snoc, show ((b + k : Nat) : Int) = (b : Int) + (k : Int) by omega]
                            exact ow7
                          · rw [W1.out, ← I64_snoc]
                            exact how7
                        case measure => simp [intOf]; omega
                  · have hB := bthen B1.out hb
                    have rw' := own_rdA how
                    have rg := own_rdA hg
                    have rf := F1.out.below hb
                    clear how hg hne F1 hb
                    have hex : ¬ k < m ∨ (k < m ∧ ¬ k < n) := by omega
                    rcases hex with hlt1 | ⟨hlt1, hlt2⟩
                    all_goals
                      go_wp2_with fail
                      refine (plan_any _ _ _ k wc n vc k gc (wl n way k) (seqI a n) (seqI b k) wr (wl_length (by omega)) (by omega) rw' (seqI_length _ _) rf (seqI_length _ _) (by omega) rg (seqI_wf (by omega))).mono ?_
                      rintro e w8 ⟨pa, pc, rfl, o8, hb8⟩
                      replace hB := bthen hB hb8
                      by_cases h0 : k = 0
                      · subst h0
                        rw [moves_no]
                        clear rw' rg rf o8
                        go_wp2
                        go_returns
                        exact ⟨rfl, hB⟩
                      · have P := plan_ok (moves_ok (a := a) (b := b) (n := n) (k := k) (way := way) (by omega) (by omega) (by omega))
                        rw [wl_length (by omega)] at P
                        rw [P.2]
                        have r8 := own_rdA o8
                        rw [P.1] at r8
                        rw [P.1]
                        have AF := Lib.hid (fun j => aft_mvs (n := n) (a := a) (b := b) (k := k) (way := way) (by omega) (by omega) j k (Nat.le_refl _))
                        have MI := Lib.hid (mvs_in (n := n) (a := a) (b := b) (k := k) (way := way) (by omega) (by omega) k (Nat.le_refl _))
                        have hL := mvs_len (wl n way k) (seqI a n) (seqI b k) k
                        generalize mvs (wl n way k) (seqI a n) (seqI b k) k = L at *
                        have RD := Lib.hid (fun (x : World) (h : Below w8.heap.size w8 x) => (⟨(rw'.below hb8).below h, (rg.below hb8).below h, (rf.below hb8).below h, r8.below h⟩ : Rd x wa (I64 (wl n way k)) ∧ Rd x ga (I64 (seqI b k)) ∧ Rd x va (I64 (seqI a n)) ∧ Rd x pa (PR L)))
                        clear P rw' rg rf o8 r8 hb8
                        have hk0 : ((k : Int) == 0) = false := by simpa using (show (k : Int) ≠ 0 by omega)
                        obtain ⟨i0, hi, hz0, hz1, hz2⟩ := info_parts info3
                        have hmk : ∀ x : World, (Instr.makeSlice 23 (.int .i64 256) (.int .i64 256)).run Try.prog x = .ok (.slice (some ⟨x.heap.size, 0, none⟩) 256 256) (x.alloc (.cells (madeCells #[.int .i64 0] 256) 3)) := fun x => by
                          have h := run_make (P := Try.prog) x 23 3 i0 (.int .i64 0) Try.underlying23 hi hz0 .i64 .i64 256 256 (by omega) (by omega) (by rw [hz2]; omega) (by omega)
                          rw [hz1] at h
                          exact h
                        rw [← fillA_zero] at hmk
                        go_wp2
                        have q1 : Blk ((w8.alloc (.cells (fillA 0) 3)).alloc (.cells (fillA 0) 3)) w8.heap.size (fillA 0) 3 := (Blk.new w8 _ 3).alloc _
                        have q2 : Blk ((w8.alloc (.cells (fillA 0) 3)).alloc (.cells (fillA 0) 3)) (w8.heap.size + 1) (fillA 0) 3 := by simpa using Blk.new (w8.alloc (.cells (fillA 0) 3)) (fillA 0) 3
                        have q3 : Below w8.heap.size w8 ((w8.alloc (.cells (fillA 0) 3)).alloc (.cells (fillA 0) 3)) := by go_grown
                        clear hmk hi hz0 hz1 hz2
                        generalize ((w8.alloc (.cells (fillA 0) 3)).alloc (.cells (fillA 0) 3)) = w9 at *
                        generalize hH : w8.heap.size = H at *
                        go_loopw [23] (fun i wr => ∃ q : Nat, q ≤ 256 ∧ i = .int .i64 (q : Int) ∧ Blk wr H (fillA q) 3 ∧ Blk wr (H + 1) (fillA q) 3 ∧ Below H w8 wr) (fun i _ => 256 - (intOf i).toNat)
                        case atStart => exact ⟨0, by omega, rfl, q1, q2, q3⟩
                        case round =>
                          as_aux_lemma =>
                            clear q1 q2 q3
                            obtain ⟨q, hq, rfl, q1, q2, q3⟩ := hrel
                            by_cases hlt : q < 256
                            · have y1 : wr.cell? ⟨H, q, none⟩ = some (.int .i64 0) := by rw [q1.cell, fillA_get _ _ hlt (Nat.le_refl _)]
                              have y2 : wr.cell? ⟨H + 1, q, none⟩ = some (.int .i64 0) := by rw [q2.cell, fillA_get _ _ hlt (Nat.le_refl _)]
                              have f1 := q1.frozen q
                              have f2 := q2.frozen q
                              have ea1 : (⟨H, 0, none⟩ : Addr).add q = ⟨H, q, none⟩ := by simpa using addr_add H 0 q
                              have ea2 : (⟨H + 1, 0, none⟩ : Addr).add q = ⟨H + 1, q, none⟩ := by simpa using addr_add (H + 1) 0 q
                              have hw : IntKind.i64.wrap (1000 + (q : Int)) = 1000 + (q : Int) := IntWalk.i64_in _ (by omega)
                              have FS := Lib.hid (fillA_set q hlt)
                              go_wp2
                              go_roundw
                              case rel =>
                                have s1 := (q1.set q (.int .i64 (1000 + (q : Int)))).other ⟨H + 1, q, none⟩ (.int .i64 (1000 + (q : Int))) (by simp)
                                have s2 := (q2.other ⟨H, q, none⟩ (.int .i64 (1000 + (q : Int))) (by simp)).set q (.int .i64 (1000 + (q : Int)))
                                rw [FS.out] at s1 s2
                                exact ⟨q + 1, by omega, by go_num, s1, s2, (q3.setCell (p := ⟨H, q, none⟩) (by simp) _).setCell (p := ⟨H + 1, q, none⟩) (by simp) _⟩
                              case measure => simp [intOf]; omega
                            · obtain rfl : q = 256 := by omega
                              rw [fillA_full] at q1 q2
                              go_wp2
                              go_loopw [24] (fun i wr => ∃ q : Nat, q ≤ L.length ∧ i = .int .i64 (q : Int) ∧ Blk wr H (afA []) 3 ∧ Blk wr (H + 1) (afA (L.take q)) 3 ∧ Below H w8 wr) (fun i _ => L.length - (intOf i).toNat)
                              case atStart => exact ⟨0, by omega, rfl, q1, q2, q3⟩
                              case round =>
                                as_aux_lemma =>
                                  clear q1 q2 q3 hlt
                                  obtain ⟨q, hq, rfl, q1, q2, q3⟩ := hrel
                                  by_cases hlt : q < L.length
                                  · obtain ⟨uu, vv, hp, huv, hu, hv⟩ := MI.out _ (List.getElem_mem hlt)
                                    obtain ⟨b0, o0, rfl, y0, y1⟩ := (RD.out _ q3).2.2.2.pr q hlt
                                    have T1 := Lib.hid (List.take_succ_eq_append_getElem hlt)
                                    rw [hp] at y0 y1 T1
                                    simp only at y0 y1
                                    have ea := addr_add b0 o0 (q * 2)
                                    have ea1 := addr_add b0 (o0 + q * 2) 1
                                    have z1 : wr.cell? ⟨H, uu, none⟩ = some (.int .i64 (1000 + (uu : Int))) := by rw [q1.cell, afA_get _ _ (by omega), aft_nil]
                                    have z2 : wr.cell? ⟨H + 1, vv, none⟩ = some (.int .i64 (aft (L.take q) vv)) := by rw [q2.cell, afA_get _ _ (by omega)]
                                    have z3 := q2.frozen vv
                                    have AS := Lib.hid (afA_set (L.take q) uu vv)
                                    generalize aft (L.take q) vv = old at z2
                                    have ec1 : (⟨H, 0, none⟩ : Addr).add uu = ⟨H, uu, none⟩ := by simpa using addr_add H 0 uu
                                    have ec2 : (⟨H + 1, 0, none⟩ : Addr).add vv = ⟨H + 1, vv, none⟩ := by simpa using addr_add (H + 1) 0 vv
                                    have n1 : ((uu : Int) == (vv : Int)) = false := by simp; omega
                                    have n2 : decide ((uu : Int) < 0) = false := decide_eq_false (by omega)
                                    have n3 : decide ((256 : Int) ≤ (uu : Int)) = false := decide_eq_false (by omega)
                                    have n3' : decide (256 ≤ uu) = false := decide_eq_false (by omega)
                                    have n4 : decide ((vv : Int) < 0) = false := decide_eq_false (by omega)
                                    have n5 : decide ((256 : Int) ≤ (vv : Int)) = false := decide_eq_false (by omega)
                                    have n5' : decide (256 ≤ vv) = false := decide_eq_false (by omega)
                                    have n6 : (uu : Int) < 256 := by omega
                                    have n7 : (vv : Int) < 256 := by omega
                                    have hqi : (q : Int) < (L.length : Int) := by omega
                                    clear hp
                                    go_wp2
                                    go_quiet (fail)
                                    have y0' : (wr.drewN nq).cell? ⟨b0, o0 + q * 2, none⟩ = some (.int .i64 (uu : Int)) := y0
                                    have y1' : (wr.drewN nq).cell? ⟨b0, o0 + q * 2 + 1, none⟩ = some (.int .i64 (vv : Int)) := y1
                                    have z1' : (wr.drewN nq).cell? ⟨H, uu, none⟩ = some (.int .i64 (1000 + (uu : Int))) := z1
                                    have z2' : (wr.drewN nq).cell? ⟨H + 1, vv, none⟩ = some (.int .i64 old) := z2
                                    have z3' : (wr.drewN nq).frozen? ⟨H + 1, vv, none⟩ = false := z3
                                    have p1 : Blk (wr.drewN nq) H (afA []) 3 := q1
                                    have p2 : Blk (wr.drewN nq) (H + 1) (afA (L.take q)) 3 := q2
                                    have p3 : Below H w8 (wr.drewN nq) := ⟨q3.os, q3.tape, q3.output, q3.size, q3.block⟩
                                    clear y0 y1 z1 z2 z3 q1 q2 q3
                                    generalize wr.drewN nq = w10 at *
                                    go_wp2
                                    go_region
                                    all_goals go_wp2
                                    all_goals
                                      go_roundw
                                      case rel =>
                                        have s1 := p1.other ⟨H + 1, vv, none⟩ (.int .i64 (1000 + (uu : Int))) (by simp)
                                        have s2 := p2.set vv (.int .i64 (1000 + (uu : Int)))
                                        rw [AS.out, ← T1.out] at s2
                                        exact ⟨q + 1, by omega, by go_num, s1, s2, (p3.setCell (p := ⟨H + 1, vv, none⟩) (by simp) _).drew⟩
                                      case measure => simp [intOf]; omega
                                  · obtain rfl : q = L.length := by omega
                                    rw [List.take_length] at q2
                                    clear MI
                                    go_wp2
                                    go_loopw [25] (fun i wr => ∃ q : Nat, q ≤ k ∧ i = .int .i64 (q : Int) ∧ Blk wr H (afA []) 3 ∧ Blk wr (H + 1) (afA L) 3 ∧ Below H w8 wr) (fun i _ => k - (intOf i).toNat)
                                    case atStart => exact ⟨0, by omega, rfl, q1, q2, q3⟩
                                    case round =>
                                      as_aux_lemma =>
                                        clear q1 q2 q3 hlt hq
                                        obtain ⟨q, hq, rfl, q1, q2, q3⟩ := hrel
                                        by_cases hlt : q < k
                                        · have hmd := mdN_lt (n := n) (x := wv way q) (by omega)
                                          obtain ⟨r1, r2, r3, _⟩ := RD.out _ q3
                                          obtain ⟨b1, o1, rfl, y1⟩ := r1.i64 q (by rw [wl_length (by omega)]; omega)
                                          obtain ⟨b2, o2, rfl, y2⟩ := r2.i64 q (by rw [seqI_length]; omega)
                                          obtain ⟨b3, o3, rfl, y3⟩ := r3.i64 (mdN n (wv way q)) (by rw [seqI_length]; omega)
                                          rw [wv_get _ q (by rw [wl_length (by omega)]; omega), wl_get (by omega) hlt] at y1
                                          rw [wv_get _ q (by rw [seqI_length]; omega), seqI_get _ _ _ hlt] at y2
                                          rw [wv_get _ _ (by rw [seqI_length]; omega), seqI_get _ _ _ hmd] at y3
                                          have z1 : wr.cell? ⟨H, a + mdN n (wv way q), none⟩ = some (.int .i64 (1000 + ((a + mdN n (wv way q) : Nat) : Int))) := by rw [q1.cell, afA_get _ _ (by omega), aft_nil]
                                          have z2 : wr.cell? ⟨H + 1, b + q, none⟩ = some (.int .i64 (1000 + ((a + mdN n (wv way q) : Nat) : Int))) := by
                                            rw [q2.cell, afA_get _ _ (by omega), AF.out, if_pos (by omega), show b + q - b = q by omega]
                                          generalize mdN n (wv way q) = md at *
                                          generalize hbq : b + q = bq at *
                                          generalize ham : a + md = am at *
                                          have e1 := addr_add b1 o1 q
                                          have e2 := addr_add b2 o2 q
                                          have e3 := addr_add b3 o3 md
                                          have e4 : (⟨H, 0, none⟩ : Addr).add am = ⟨H, am, none⟩ := by simpa using addr_add H 0 am
                                          have e5 : (⟨H + 1, 0, none⟩ : Addr).add bq = ⟨H + 1, bq, none⟩ := by simpa using addr_add (H + 1) 0 bq
                                          have n1 : (q : Int) < (k : Int) := by omega
                                          have n2 : (md : Int) < (n : Int) := by omega
                                          have n3 : (am : Int) < 256 := by omega
                                          have n4 : (bq : Int) < 256 := by omega
                                          clear r1 r2 r3
                                          go_wp2
                                          go_quiet (fail)
                                          all_goals go_wp2
                                          go_roundw
                                          case rel => exact ⟨q + 1, by omega, by go_num, q1, q2, ⟨q3.os, q3.tape, q3.output, q3.size, q3.block⟩⟩
                                          case measure => simp [intOf]; omega
                                        · go_wp2
                                          go_loopw [26, 27] (fun i _ wr => ∃ q : Nat, q ≤ 256 ∧ i = .int .i64 (q : Int) ∧ Blk wr H (afA []) 3 ∧ Blk wr (H + 1) (afA L) 3 ∧ Below H w8 wr) (fun i _ _ => 256 - (intOf i).toNat)
                                          case atStart => exact ⟨0, by omega, rfl, q1, q2, q3⟩
                                          case round =>
                                            as_aux_lemma =>
                                              clear q1 q2 q3 hlt hq
                                              obtain ⟨q, hq, rfl, q1, q2, q3⟩ := hrel
                                              by_cases hlt : q < 256
                                              · have z1 : wr.cell? ⟨H, q, none⟩ = some (.int .i64 (1000 + (q : Int))) := by rw [q1.cell, afA_get _ _ (by omega), aft_nil]
                                                have e4 : (⟨H, 0, none⟩ : Addr).add q = ⟨H, q, none⟩ := by simpa using addr_add H 0 q
                                                have e5 : (⟨H + 1, 0, none⟩ : Addr).add q = ⟨H + 1, q, none⟩ := by simpa using addr_add (H + 1) 0 q
                                                have hw : IntKind.i64.wrap ((b : Int) + (k : Int)) = (b : Int) + (k : Int) := IntWalk.i64_in _ (by omega)
                                                have n4 : (q : Int) < 256 := by omega
                                                by_cases m1 : b ≤ q
                                                · have m1' : decide ((b : Int) ≤ (q : Int)) = true := decide_eq_true (by omega)
                                                  by_cases m2 : q < b + k
                                                  · have m2' : decide ((q : Int) < (b : Int) + (k : Int)) = true := decide_eq_true (by omega)
                                                    go_wp2
                                                    go_quiet (fail)
                                                    all_goals go_wp2
                                                    go_roundw
                                                    case rel => exact ⟨q + 1, by omega, by go_num, q1, q2, ⟨q3.os, q3.tape, q3.output, q3.size, q3.block⟩⟩
                                                    case measure => simp [intOf]; omega
                                                  · have m2' : decide ((q : Int) < (b : Int) + (k : Int)) = false := decide_eq_false (by omega)
                                                    have z2 : wr.cell? ⟨H + 1, q, none⟩ = some (.int .i64 (1000 + (q : Int))) := by rw [q2.cell, afA_get _ _ (by omega), AF.out, if_neg (by omega)]
                                                    go_wp2
                                                    go_quiet (fail)
                                                    all_goals go_wp2
                                                    go_roundw
                                                    case rel => exact ⟨q + 1, by omega, by go_num, q1, q2, ⟨q3.os, q3.tape, q3.output, q3.size, q3.block⟩⟩
                                                    case measure => simp [intOf]; omega
                                                · have m1' : decide ((b : Int) ≤ (q : Int)) = false := decide_eq_false (by omega)
                                                  have m1'' : decide (b ≤ q) = false := decide_eq_false (by omega)
                                                  have z2 : wr.cell? ⟨H + 1, q, none⟩ = some (.int .i64 (1000 + (q : Int))) := by rw [q2.cell, afA_get _ _ (by omega), AF.out, if_neg (by omega)]
                                                  go_wp2
                                                  go_quiet (fail)
                                                  all_goals go_wp2
                                                  go_roundw
                                                  case rel => exact ⟨q + 1, by omega, by go_num, q1, q2, ⟨q3.os, q3.tape, q3.output, q3.size, q3.block⟩⟩
                                                  case measure => simp [intOf]; omega
                                              · go_wp2
                                                go_returns
                                                exact ⟨rfl, bthen hB (by rw [hH]; exact q3)⟩
end Go.Proofs.Ytlcgkdhcdldlfaa
