import Derived.Test.YtlocogccjlecjaaDoorQuoQ
import Derived.Test.YtlocogccjlecjaaDoorByt
/- RegexQuoted: its walk. -/
namespace Go.Proofs.YtlocogccjlecjaaDoor
open Go.RowKit
theorem exL_snoc (p : Bool) (l : List Nat) (b : Nat) : exL p (l ++ [b]) = exL p l ++ pcL p b := by simp [exL]
theorem exL_len (p : Bool) (l : List Nat) : (exL p l).length ≤ 4 * l.length ∧ l.length ≤ (exL p l).length := by
  induction l with
  | nil => exact ⟨Nat.le_refl _, Nat.le_refl _⟩
  | cons b r ih =>
    rw [exL_cons, List.length_append, List.length_cons]
    have h : (pcL p b).length ≤ 4 ∧ 1 ≤ (pcL p b).length := by unfold pcL; split <;> simp [digL]
    omega
theorem run_bstr (w : World) (b : Nat) (hb : b < 256) : (convert 37 9 (.slice (some ⟨w.heap.size, 0, none⟩) 1 1)).run Tryd.prog (w.alloc (.cells #[.int .u8 ((b : Nat) : Int)] 5)) = .ok (.string (strOf [b])) (w.alloc (.cells #[.int .u8 ((b : Nat) : Int)] 5)) :=
  conv_one b w.heap.size _ hb ((Blk.new w #[.int .u8 ((b : Nat) : Int)] 5).cell 0)
theorem U8_B8 (l : List Nat) : U8 l = B8 (l.map fun n => ((n : Nat) : Int)) := by unfold U8 B8; rw [List.map_map]; rfl
theorem map_int_eq (a b : List Nat) : decide ((a.map fun n => ((n : Nat) : Int)) = b.map fun n => ((n : Nat) : Int)) = decide (b = a) := by
  rw [decide_eq_decide]
  constructor
  · intro h
    refine List.ext_getElem? (fun i => ?_)
    have h1 := congrArg (·[i]?) h
    simp only [List.getElem?_map] at h1
    cases ha : a[i]? <;> cases hb : b[i]? <;> simp_all <;> omega
  · rintro rfl; rfl
/-- append of one element, at an operation that has a guard -/
theorem appG {P : Program} {ops : Array Oper} {rest : List Oper} {o : Oper} {a : Act} {Q : Exit → Act → World → Prop} {W : World} (base : Nat) (hgd : Region.wanted o (yielded ops a.tmps) = true) (s x : Operand) (t e : TypeId) (z : Value) (size bytes : Nat)
    (ho : o.op = .call { callee := .builtin .append, args := #[s, x], argTypes := #[t, t] })
    (ht : P.underlying t = some (.slice e)) (hinfo : (P.info? e).map (fun i => (i.zero, i.size, i.bytes)) = some (some z, size, bytes)) (hzs : z.cells.size = size) (hsz : 0 < size) (hb0 : 0 < bytes)
    (v : Value) (n : Nat) (xs : List Value) (H : Nat) (cs : Array Value) (hs : a.eval s = v) (hx : a.eval x = .slice (some ⟨H, 0, none⟩) 1 1) (hl : cs.size = size) (h1 : ∀ u ∈ cs.toList, u.oneCell' = true)
    (hH : Blk W H cs e) (HO : W.ownsRow base e size v n xs) (hbase : base ≤ W.heap.size) (hle : (n + 1) * bytes ≤ 140737488355328)
    (h : ∀ g cap w1, w1.ownsRow base e size (.slice (some ⟨g, 0, none⟩) (n + 1) cap) (n + 1) (xs ++ cs.toList) → W.grownBy w1 v.ownBlock → (v.ownBlock = some g ∨ g = W.heap.size) → wpList P ops Q rest (a.put o.dst (.slice (some ⟨g, 0, none⟩) (n + 1) cap)) w1) :
    wpList P ops Q (o :: rest) a W := by
  obtain ⟨i0, hi, hzz⟩ := Option.map_eq_some_iff.1 hinfo
  simp only [Prod.mk.injEq] at hzz
  obtain ⟨hz0, hz1, hz2⟩ := hzz
  have hlen : n + 1 ≤ 140737488355328 := Nat.le_trans (Nat.le_mul_of_pos_right _ hb0) hle
  unfold wpList
  rw [if_pos hgd]
  refine .inl (wp_append_lies W s x t ho base e i0 z size bytes ht hi hz0 hz1 hz2 hzs hsz v n xs hs HO ⟨H, 0, none⟩ 1 1 cs.toList hx (by simpa using hl)
    (World.news_of_block (cs := cs) (t := e) (fr := (0, 0)) hH) h1 (by omega) (by simp only [maxLen]; omega) hle hbase W.heap.size rfl (fun g cap w1 h1 h2 h3 _ => h g cap w1 h1 h2 h3))
set_option maxRecDepth 100000 in
set_option maxHeartbeats 8000000 in
theorem lawQuoted_any (A A' : Option Addr) (n n' c c' : Nat) (l ol : List Nat) (p : Bool) (w : World) (hT : Tab w) (hl : l.length = n) (hol : ol.length = n') (hr : Rd w A (U8 l)) (hor : Rd w A' (U8 ol)) (hb : ∀ b ∈ l, b < 256) (hob : ∀ b ∈ ol, b < 256) (hn : n ≤ 140737488355328) (hn' : n' * 1 ≤ 140737488355328) (hnc : n ≤ c) :
    Calls Tryd.prog 4 #[.slice A n c, .slice A' n' c', .bool p] w fun e w' => e = .returned (.bool true) ∧ Below w.heap.size w w' := by
  obtain ⟨m, tx, hm, htl, htr, htb, hmc, hcase⟩ : ∃ (m : Nat) (tx : List Nat), m ≤ 65 ∧ tx.length = m ∧ Rd w A (U8 tx) ∧ (∀ b ∈ tx, b < 256) ∧ m ≤ c ∧ ((64 < n ∧ m = 65) ∨ (n ≤ 64 ∧ m = n)) := by
    by_cases h : 64 < n
    · refine ⟨65, l.take 65, Nat.le_refl _, by rw [List.length_take]; omega, ?_, fun b hb2 => hb b (List.mem_of_mem_take hb2), by omega, .inl ⟨h, rfl⟩⟩
      have e : U8 l = U8 (l.take 65) ++ U8 (l.drop 65) := by unfold U8; rw [← List.map_append, List.take_append_drop]
      rw [e] at hr
      exact hr.pre
    · exact ⟨n, l, by omega, hl, hr, hb, hnc, .inr ⟨by omega, rfl⟩⟩
  have HA := Lib.hid (And.intro hT (And.intro hol (And.intro hor (And.intro hob (And.intro hn' hl)))))
  have HT := Lib.hid (And.intro htl (And.intro htr htb))
  clear hT hol hor hob hl hr hb htl htr htb
  go_enter Tryd.func4, Tryd.ntmps4
  rcases hcase with ⟨h64, hm65⟩ | ⟨h64, rfl⟩
  · have h64i : (64 : Int) < ((n : Nat) : Int) := by omega
    have hsl : ∀ w : World, (Instr.slice 37 (.slice A n c) none (some (.int .i64 65)) none).run Tryd.prog w = .ok (.slice A m c) w := fun w => by
      subst hm65
      have hci : (65 : Int) ≤ ((c : Nat) : Int) := by omega
      go_simp
    clear hm65
    go_wp2
    go_loopw [7, 8] (fun sv iv wr => ∃ i : Nat, iv = .int .i64 ((i : Nat) : Int) ∧ i ≤ m ∧ sv = .string (strOf (exL p (tx.take i))) ∧ Below w.heap.size w wr) (fun _ iv _ => m - (intOf iv).toNat)
    case atStart => exact ⟨0, rfl, Nat.zero_le _, rfl, Below.refl _ _⟩
    case round =>
      obtain ⟨i, rfl, him, rfl, hbw⟩ := hrel
      by_cases hi : i = m
      · have him2 : ¬ (((i : Nat) : Int) < ((m : Nat) : Int)) := by omega
        have htk : tx.take i = tx := List.take_of_length_le (by have := HT.out.1; omega)
        rw [htk]
        have hlm := HT.out.1
        have hC := compile_any (strOf (exL p tx)) wr (HA.out.1.below hbw)
        have hlen := exL_len p tx
        clear htk hi
        go_wp2_with fail
        refine hC.mono ?_
        rintro e w1 ⟨hb1, hcm⟩
        have hbw1 := hbw.trans (hb1.mono hbw.size)
        clear hC
        by_cases h1 : 64 < (exL p tx).length
        · obtain rfl := hcm.fixLong (by rw [strOf_size]; exact h1)
          have hs1 : (64 : Int) < (((strOf (exL p tx)).size : Nat) : Int) := by rw [strOf_size]; omega
          clear hcm hlen
          go_wp2
          go_returns
          exact ⟨rfl, hbw1⟩
        · have hs1 : ¬ ((64 : Int) < (((strOf (exL p tx)).size : Nat) : Int)) := by rw [strOf_size]; omega
          have hpars := quo_pars (p := p) HT.out.2.2 (by omega)
          by_cases h2 : 64 ≤ m
          · obtain rfl := hcm.fixMany hpars (quo_many HT.out.2.2 (by omega))
            have hm2 : (64 : Int) ≤ ((m : Nat) : Int) := by omega
            clear hcm hlen hpars
            go_wp2
            go_returns
            exact ⟨rfl, hbw1⟩
          · obtain ⟨d, rfl, hd⟩ := hcm.fix hpars (quo_cmp HT.out.2.2 (by omega)) (lsQ_len tx) (qQ_len _ _)
            have hds := dfaS_of (t := quoT tx) (q := qQ tx.length tx.length) (ls := lsQ tx) (by rw [lsQ_len]; exact quo_cmp HT.out.2.2 (by omega)) (by rw [qQ_len, lsQ_len]) hd
            have hst := states_ok hds
            rw [lsQ_len, hlm] at hst
            have hm2 : ¬ ((64 : Int) ≤ ((m : Nat) : Int)) := by omega
            have hcp := copyBytes_any A m c (tx.map fun n => ((n : Nat) : Int)) (by rw [List.length_map]; exact hlm) (by omega) w1 (by rw [← U8_B8]; exact HT.out.2.1.below hbw1)
            have HS := Lib.hid hds
            clear hcm hlen hpars hd hds
            go_wp2_with fail
            refine hst.mono ?_
            rintro e w2 ⟨rfl, rfl⟩
            go_wp2_with fail
            refine hcp.mono ?_
            rintro e w3 ⟨v3, rfl, o3, b3⟩
            obtain ⟨A3, c3, rfl, _, r3⟩ := own_rd o3
            rw [← U8_B8] at r3
            have hm3 := match_any (HS.out.below b3) A3 m c3 tx r3 hlm HT.out.2.2 (by omega)
            rw [quo_match tx HT.out.2.2, decide_eq_true rfl] at hm3
            have hbw3 := hbw1.trans (b3.mono hbw1.size)
            have hco := copyBytes_any A' n' c' (ol.map fun n => ((n : Nat) : Int)) (by rw [List.length_map]; exact HA.out.2.1) HA.out.2.2.2.2.1 w3 (by rw [← U8_B8]; exact HA.out.2.2.1.below hbw3)
            clear r3 o3 hst hcp
            go_wp2_with fail
            refine hm3.mono ?_
            rintro e w4 ⟨rfl, rfl⟩
            go_wp2_with fail
            refine hco.mono ?_
            rintro e w4 ⟨v4, rfl, o4, b4⟩
            obtain ⟨A4, c4, rfl, _, r4⟩ := own_rd o4
            rw [← U8_B8] at r4
            have b34 := b3.trans (b4.mono b3.size)
            have hbw4 := hbw3.trans (b4.mono hbw3.size)
            have hm4 := match_any (HS.out.below b34) A4 n' c4 ol r4 HA.out.2.1 HA.out.2.2.2.1 (by have := HA.out.2.2.2.2.1; omega)
            rw [quo_match ol HA.out.2.2.2.1] at hm4
            have heq := eqBytes_any A A' m n' c c' (tx.map fun n => ((n : Nat) : Int)) (ol.map fun n => ((n : Nat) : Int)) (by rw [List.length_map]; exact hlm) (by rw [List.length_map]; exact HA.out.2.1) (by omega) w4 (by rw [← U8_B8]; exact HT.out.2.1.below hbw4) (by rw [← U8_B8]; exact HA.out.2.2.1.below hbw4)
            rw [map_int_eq] at heq
            clear r4 o4 hm3 hco
            go_wp2_with fail
            refine hm4.mono ?_
            rintro e w5 ⟨rfl, rfl⟩
            go_wp2_with fail
            refine heq.mono ?_
            rintro e w5 ⟨rfl, b5⟩
            have hbw5 := hbw4.trans (b5.mono hbw4.size)
            have b35 := b34.trans (b5.mono b34.size)
            have hcq := copyBytes_any A m c (tx.map fun n => ((n : Nat) : Int)) (by rw [List.length_map]; exact hlm) (by omega) w5 (by rw [← U8_B8]; exact HT.out.2.1.below hbw5)
            clear hm4 heq
            generalize decide (ol = tx) = same at *
            go_wp2_with fail
            refine hcq.mono ?_
            rintro e w6 ⟨v6, rfl, o6, b6⟩
            have q7 := Blk.new w6 #[.int .u8 7] 5
            have b67 : Below w6.heap.size w6 (w6.alloc (.cells #[.int .u8 7] 5)) := by go_grown
            have o7 := own_below o6 b67
            have h7le : w5.heap.size ≤ (w6.alloc (.cells #[.int .u8 7] 5)).heap.size := Nat.le_trans b6.size b67.size
            have b57 : Below w5.heap.size w5 (w6.alloc (.cells #[.int .u8 7] 5)) := b6.trans (b67.mono b6.size)
            have own5 := own_lt o7
            have own5 := own_lt o7
            clear hcq
            go_wp2_with (at_builtin; refine appG w5.heap.size (by rfl) _ _ 37 5 (.int .u8 0) 1 1 rfl Tryd.underlying37 info5 rfl (by decide) (by decide) v6 m (B8 (tx.map fun n => ((n : Nat) : Int))) w6.heap.size #[.int .u8 7] rfl rfl rfl (by simp [Value.oneCell']) q7 o7 h7le (by omega) ?_; intro g8 cap8 w8 os8 hg8 _)
            have b58 := b57.grown hg8 h7le (fun k hk => (own5 k hk).1)
            have hbw8 := hbw5.trans (b58.mono hbw5.size)
            have r8 : Rd w8 (some ⟨g8, 0, none⟩) (U8 (tx ++ [7])) := by
              have h := own_rdA os8
              have e : U8 (tx ++ [7]) = B8 (tx.map fun n => ((n : Nat) : Int)) ++ (#[Value.int .u8 7] : Array Value).toList := by rw [← U8_B8]; simp [U8]
              rw [e]
              exact h
            have hm8 := match_any (HS.out.below (b35.trans (b58.mono b35.size))) (some ⟨g8, 0, none⟩) (m + 1) cap8 (tx ++ [7]) r8 (by rw [List.length_append, hlm]; rfl) (fun b hb => by
              rcases List.mem_append.1 hb with h | h
              · exact HT.out.2.2 b h
              · rw [List.mem_singleton.1 h]; decide) (by omega)
            rw [quo_match (tx ++ [7]) (fun b hb => by
              rcases List.mem_append.1 hb with h | h
              · exact HT.out.2.2 b h
              · rw [List.mem_singleton.1 h]; decide), decide_eq_false (fun h => by have := congrArg List.length h; simp at this)] at hm8
            clear r8 os8 hg8
            refine hm8.mono ?_
            rintro e w9 ⟨rfl, rfl⟩
            go_wp2
            go_returns
            exact ⟨by simp, hbw8⟩
      · have him2 : ((i : Nat) : Int) < ((m : Nat) : Int) := by omega
        obtain ⟨b, hbi⟩ : ∃ b, tx[i]? = some b := ⟨_, List.getElem?_eq_getElem (by have := HT.out.1; omega)⟩
        have hb256 := HT.out.2.2 b (List.mem_of_getElem? hbi)
        have HTX := Lib.hid (And.intro hbi hb256)
        obtain ⟨g, o, rfl, hcell⟩ := (HT.out.2.1.below hbw).at i (by unfold U8; rw [List.length_map]; exact lt_of_some hbi)
        have hc2 : wr.cell? ⟨g, o + i, none⟩ = some (.int .u8 ((b : Nat) : Int)) := by
          rw [hcell, ← List.getElem?_eq_getElem]
          unfold U8
          rw [List.getElem?_map, hbi]
          rfl
        have e0 : (⟨g, o, none⟩ : Addr).add i = ⟨g, o + i, none⟩ := addr_add g o i
        clear hcell hbi
        rcases (show (97 ≤ b ∧ b ≤ 122) ∨ (48 ≤ b ∧ b ≤ 57) ∨ (b = 32) ∨ (b = 123) ∨ (b = 34) ∨ (b = 94) ∨ (b = 45) ∨ (123 < b) ∨ (57 < b ∧ b < 97 ∧ b ≠ 94) ∨ (b < 48 ∧ b ≠ 32 ∧ b ≠ 34 ∧ b ≠ 45) by omega) with h | h | h | h | h | h | h | h | h | h
        · have fa : (97 : Int) ≤ ((b : Nat) : Int) := by omega
          have fz : ((b : Nat) : Int) ≤ (122 : Int) := by omega
          have hlt : letB b = true := by unfold letB; simp; omega
          clear h
          cases p with
          | true =>
            have hpc : pcL true b = [b] := by unfold pcL; rw [hlt]; rfl
            have HX := Lib.hid (show exL true (tx.take (i + 1)) = exL true (tx.take i) ++ [b] by rw [takeSucc HTX.out.1, exL_snoc, hpc])
            have hcv := run_bstr wr b HTX.out.2
            have hadd : ∀ w : World, (Op.stringOp .add (strOf (exL true (tx.take i))) (strOf [b])).run Tryd.prog w = .ok (.string (strOf (exL true (tx.take (i + 1))))) w := fun w => by rw [run_string_add_sum w _ _ (by rw [strOf_size, strOf_size]; have := exL_len true (tx.take i); have := List.length_take_le i tx; simp; omega), strOf_append, HX.out]
            have b5 : Below w.heap.size w (wr.alloc (.cells #[.int .u8 ((b : Nat) : Int)] 5)) := hbw.trans (show Below w.heap.size wr (wr.alloc (.cells #[.int .u8 ((b : Nat) : Int)] 5)) by exact (show Below wr.heap.size wr _ by go_grown).mono hbw.size)
            clear HX hpc hlt
            go_wp2
            go_roundw
            case rel => exact ⟨i + 1, rfl, by omega, rfl, b5⟩
            case measure => simp [intOf]; omega
          | false =>
            have hpc : pcL false b = digL b := by unfold pcL; rw [hlt]; rfl
            have HX := Lib.hid (show exL false (tx.take (i + 1)) = exL false (tx.take i) ++ digL b by rw [takeSucc HTX.out.1, exL_snoc, hpc])
            have hdg := digits_any b HTX.out.2 wr
            have hadd : ∀ w : World, (Op.stringOp .add (strOf (exL false (tx.take i))) (strOf (digL b))).run Tryd.prog w = .ok (.string (strOf (exL false (tx.take (i + 1))))) w := fun w => by rw [run_string_add_sum w _ _ (by rw [strOf_size, strOf_size]; have := exL_len false (tx.take i); have := List.length_take_le i tx; simp [digL]; omega), strOf_append, HX.out]
            clear HX hpc hlt
            go_wp2_with fail
            refine hdg.mono ?_
            rintro e w5 ⟨rfl, hb5⟩
            have b5 := hbw.trans (hb5.mono hbw.size)
            go_wp2
            go_roundw
            case rel => exact ⟨i + 1, rfl, by omega, rfl, b5⟩
            case measure => simp [intOf]; omega
        · have fa : ¬ ((97 : Int) ≤ ((b : Nat) : Int)) := by omega
          have fn : (48 : Int) ≤ ((b : Nat) : Int) := by omega
          have fm : ((b : Nat) : Int) ≤ (57 : Int) := by omega
          have hlt : letB b = true := by unfold letB; simp; omega
          clear h
          cases p with
          | true =>
            have hpc : pcL true b = [b] := by unfold pcL; rw [hlt]; rfl
            have HX := Lib.hid (show exL true (tx.take (i + 1)) = exL true (tx.take i) ++ [b] by rw [takeSucc HTX.out.1, exL_snoc, hpc])
            have hcv := run_bstr wr b HTX.out.2
            have hadd : ∀ w : World, (Op.stringOp .add (strOf (exL true (tx.take i))) (strOf [b])).run Tryd.prog w = .ok (.string (strOf (exL true (tx.take (i + 1))))) w := fun w => by rw [run_string_add_sum w _ _ (by rw [strOf_size, strOf_size]; have := exL_len true (tx.take i); have := List.length_take_le i tx; simp; omega), strOf_append, HX.out]
            have b5 : Below w.heap.size w (wr.alloc (.cells #[.int .u8 ((b : Nat) : Int)] 5)) := hbw.trans (show Below w.heap.size wr (wr.alloc (.cells #[.int .u8 ((b : Nat) : Int)] 5)) by exact (show Below wr.heap.size wr _ by go_grown).mono hbw.size)
            clear HX hpc hlt
            go_wp2
            go_roundw
            case rel => exact ⟨i + 1, rfl, by omega, rfl, b5⟩
            case measure => simp [intOf]; omega
          | false =>
            have hpc : pcL false b = digL b := by unfold pcL; rw [hlt]; rfl
            have HX := Lib.hid (show exL false (tx.take (i + 1)) = exL false (tx.take i) ++ digL b by rw [takeSucc HTX.out.1, exL_snoc, hpc])
            have hdg := digits_any b HTX.out.2 wr
            have hadd : ∀ w : World, (Op.stringOp .add (strOf (exL false (tx.take i))) (strOf (digL b))).run Tryd.prog w = .ok (.string (strOf (exL false (tx.take (i + 1))))) w := fun w => by rw [run_string_add_sum w _ _ (by rw [strOf_size, strOf_size]; have := exL_len false (tx.take i); have := List.length_take_le i tx; simp [digL]; omega), strOf_append, HX.out]
            clear HX hpc hlt
            go_wp2_with fail
            refine hdg.mono ?_
            rintro e w5 ⟨rfl, hb5⟩
            have b5 := hbw.trans (hb5.mono hbw.size)
            go_wp2
            go_roundw
            case rel => exact ⟨i + 1, rfl, by omega, rfl, b5⟩
            case measure => simp [intOf]; omega
        · have fa : ¬ ((97 : Int) ≤ ((b : Nat) : Int)) := by omega
          have fn : ¬ ((48 : Int) ≤ ((b : Nat) : Int)) := by omega
          have f32 : (((b : Nat) : Int) == 32) = true := by simp; omega
          have hlt : letB b = true := by unfold letB; simp; omega
          clear h
          cases p with
          | true =>
            have hpc : pcL true b = [b] := by unfold pcL; rw [hlt]; rfl
            have HX := Lib.hid (show exL true (tx.take (i + 1)) = exL true (tx.take i) ++ [b] by rw [takeSucc HTX.out.1, exL_snoc, hpc])
            have hcv := run_bstr wr b HTX.out.2
            have hadd : ∀ w : World, (Op.stringOp .add (strOf (exL true (tx.take i))) (strOf [b])).run Tryd.prog w = .ok (.string (strOf (exL true (tx.take (i + 1))))) w := fun w => by rw [run_string_add_sum w _ _ (by rw [strOf_size, strOf_size]; have := exL_len true (tx.take i); have := List.length_take_le i tx; simp; omega), strOf_append, HX.out]
            have b5 : Below w.heap.size w (wr.alloc (.cells #[.int .u8 ((b : Nat) : Int)] 5)) := hbw.trans (show Below w.heap.size wr (wr.alloc (.cells #[.int .u8 ((b : Nat) : Int)] 5)) by exact (show Below wr.heap.size wr _ by go_grown).mono hbw.size)
            clear HX hpc hlt
            go_wp2
            go_roundw
            case rel => exact ⟨i + 1, rfl, by omega, rfl, b5⟩
            case measure => simp [intOf]; omega
          | false =>
            have hpc : pcL false b = digL b := by unfold pcL; rw [hlt]; rfl
            have HX := Lib.hid (show exL false (tx.take (i + 1)) = exL false (tx.take i) ++ digL b by rw [takeSucc HTX.out.1, exL_snoc, hpc])
            have hdg := digits_any b HTX.out.2 wr
            have hadd : ∀ w : World, (Op.stringOp .add (strOf (exL false (tx.take i))) (strOf (digL b))).run Tryd.prog w = .ok (.string (strOf (exL false (tx.take (i + 1))))) w := fun w => by rw [run_string_add_sum w _ _ (by rw [strOf_size, strOf_size]; have := exL_len false (tx.take i); have := List.length_take_le i tx; simp [digL]; omega), strOf_append, HX.out]
            clear HX hpc hlt
            go_wp2_with fail
            refine hdg.mono ?_
            rintro e w5 ⟨rfl, hb5⟩
            have b5 := hbw.trans (hb5.mono hbw.size)
            go_wp2
            go_roundw
            case rel => exact ⟨i + 1, rfl, by omega, rfl, b5⟩
            case measure => simp [intOf]; omega
        · have fa : (97 : Int) ≤ ((b : Nat) : Int) := by omega
          have fz : ¬ (((b : Nat) : Int) ≤ (122 : Int)) := by omega
          have fn : (48 : Int) ≤ ((b : Nat) : Int) := by omega
          have fm : ¬ (((b : Nat) : Int) ≤ (57 : Int)) := by omega
          have f32 : (((b : Nat) : Int) == 32) = false := by simp; omega
          have f123 : (((b : Nat) : Int) == 123) = true := by simp; omega
          have hlt : letB b = true := by unfold letB; simp; omega
          clear h
          cases p with
          | true =>
            have hpc : pcL true b = [b] := by unfold pcL; rw [hlt]; rfl
            have HX := Lib.hid (show exL true (tx.take (i + 1)) = exL true (tx.take i) ++ [b] by rw [takeSucc HTX.out.1, exL_snoc, hpc])
            have hcv := run_bstr wr b HTX.out.2
            have hadd : ∀ w : World, (Op.stringOp .add (strOf (exL true (tx.take i))) (strOf [b])).run Tryd.prog w = .ok (.string (strOf (exL true (tx.take (i + 1))))) w := fun w => by rw [run_string_add_sum w _ _ (by rw [strOf_size, strOf_size]; have := exL_len true (tx.take i); have := List.length_take_le i tx; simp; omega), strOf_append, HX.out]
            have b5 : Below w.heap.size w (wr.alloc (.cells #[.int .u8 ((b : Nat) : Int)] 5)) := hbw.trans (show Below w.heap.size wr (wr.alloc (.cells #[.int .u8 ((b : Nat) : Int)] 5)) by exact (show Below wr.heap.size wr _ by go_grown).mono hbw.size)
            clear HX hpc hlt
            go_wp2
            go_roundw
            case rel => exact ⟨i + 1, rfl, by omega, rfl, b5⟩
            case measure => simp [intOf]; omega
          | false =>
            have hpc : pcL false b = digL b := by unfold pcL; rw [hlt]; rfl
            have HX := Lib.hid (show exL false (tx.take (i + 1)) = exL false (tx.take i) ++ digL b by rw [takeSucc HTX.out.1, exL_snoc, hpc])
            have hdg := digits_any b HTX.out.2 wr
            have hadd : ∀ w : World, (Op.stringOp .add (strOf (exL false (tx.take i))) (strOf (digL b))).run Tryd.prog w = .ok (.string (strOf (exL false (tx.take (i + 1))))) w := fun w => by rw [run_string_add_sum w _ _ (by rw [strOf_size, strOf_size]; have := exL_len false (tx.take i); have := List.length_take_le i tx; simp [digL]; omega), strOf_append, HX.out]
            clear HX hpc hlt
            go_wp2_with fail
            refine hdg.mono ?_
            rintro e w5 ⟨rfl, hb5⟩
            have b5 := hbw.trans (hb5.mono hbw.size)
            go_wp2
            go_roundw
            case rel => exact ⟨i + 1, rfl, by omega, rfl, b5⟩
            case measure => simp [intOf]; omega
        · have fa : ¬ ((97 : Int) ≤ ((b : Nat) : Int)) := by omega
          have fn : ¬ ((48 : Int) ≤ ((b : Nat) : Int)) := by omega
          have f32 : (((b : Nat) : Int) == 32) = false := by simp; omega
          have f123 : (((b : Nat) : Int) == 123) = false := by simp; omega
          have f34 : (((b : Nat) : Int) == 34) = true := by simp; omega
          have hlt : letB b = true := by unfold letB; simp; omega
          clear h
          cases p with
          | true =>
            have hpc : pcL true b = [b] := by unfold pcL; rw [hlt]; rfl
            have HX := Lib.hid (show exL true (tx.take (i + 1)) = exL true (tx.take i) ++ [b] by rw [takeSucc HTX.out.1, exL_snoc, hpc])
            have hcv := run_bstr wr b HTX.out.2
            have hadd : ∀ w : World, (Op.stringOp .add (strOf (exL true (tx.take i))) (strOf [b])).run Tryd.prog w = .ok (.string (strOf (exL true (tx.take (i + 1))))) w := fun w => by rw [run_string_add_sum w _ _ (by rw [strOf_size, strOf_size]; have := exL_len true (tx.take i); have := List.length_take_le i tx; simp; omega), strOf_append, HX.out]
            have b5 : Below w.heap.size w (wr.alloc (.cells #[.int .u8 ((b : Nat) : Int)] 5)) := hbw.trans (show Below w.heap.size wr (wr.alloc (.cells #[.int .u8 ((b : Nat) : Int)] 5)) by exact (show Below wr.heap.size wr _ by go_grown).mono hbw.size)
            clear HX hpc hlt
            go_wp2
            go_roundw
            case rel => exact ⟨i + 1, rfl, by omega, rfl, b5⟩
            case measure => simp [intOf]; omega
          | false =>
            have hpc : pcL false b = digL b := by unfold pcL; rw [hlt]; rfl
            have HX := Lib.hid (show exL false (tx.take (i + 1)) = exL false (tx.take i) ++ digL b by rw [takeSucc HTX.out.1, exL_snoc, hpc])
            have hdg := digits_any b HTX.out.2 wr
            have hadd : ∀ w : World, (Op.stringOp .add (strOf (exL false (tx.take i))) (strOf (digL b))).run Tryd.prog w = .ok (.string (strOf (exL false (tx.take (i + 1))))) w := fun w => by rw [run_string_add_sum w _ _ (by rw [strOf_size, strOf_size]; have := exL_len false (tx.take i); have := List.length_take_le i tx; simp [digL]; omega), strOf_append, HX.out]
            clear HX hpc hlt
            go_wp2_with fail
            refine hdg.mono ?_
            rintro e w5 ⟨rfl, hb5⟩
            have b5 := hbw.trans (hb5.mono hbw.size)
            go_wp2
            go_roundw
            case rel => exact ⟨i + 1, rfl, by omega, rfl, b5⟩
            case measure => simp [intOf]; omega
        · have fa : ¬ ((97 : Int) ≤ ((b : Nat) : Int)) := by omega
          have fn : (48 : Int) ≤ ((b : Nat) : Int) := by omega
          have fm : ¬ (((b : Nat) : Int) ≤ (57 : Int)) := by omega
          have f32 : (((b : Nat) : Int) == 32) = false := by simp; omega
          have f123 : (((b : Nat) : Int) == 123) = false := by simp; omega
          have f34 : (((b : Nat) : Int) == 34) = false := by simp; omega
          have f94 : (((b : Nat) : Int) == 94) = true := by simp; omega
          have hlt : letB b = true := by unfold letB; simp; omega
          clear h
          cases p with
          | true =>
            have hpc : pcL true b = [b] := by unfold pcL; rw [hlt]; rfl
            have HX := Lib.hid (show exL true (tx.take (i + 1)) = exL true (tx.take i) ++ [b] by rw [takeSucc HTX.out.1, exL_snoc, hpc])
            have hcv := run_bstr wr b HTX.out.2
            have hadd : ∀ w : World, (Op.stringOp .add (strOf (exL true (tx.take i))) (strOf [b])).run Tryd.prog w = .ok (.string (strOf (exL true (tx.take (i + 1))))) w := fun w => by rw [run_string_add_sum w _ _ (by rw [strOf_size, strOf_size]; have := exL_len true (tx.take i); have := List.length_take_le i tx; simp; omega), strOf_append, HX.out]
            have b5 : Below w.heap.size w (wr.alloc (.cells #[.int .u8 ((b : Nat) : Int)] 5)) := hbw.trans (show Below w.heap.size wr (wr.alloc (.cells #[.int .u8 ((b : Nat) : Int)] 5)) by exact (show Below wr.heap.size wr _ by go_grown).mono hbw.size)
            clear HX hpc hlt
            go_wp2
            go_roundw
            case rel => exact ⟨i + 1, rfl, by omega, rfl, b5⟩
            case measure => simp [intOf]; omega
          | false =>
            have hpc : pcL false b = digL b := by unfold pcL; rw [hlt]; rfl
            have HX := Lib.hid (show exL false (tx.take (i + 1)) = exL false (tx.take i) ++ digL b by rw [takeSucc HTX.out.1, exL_snoc, hpc])
            have hdg := digits_any b HTX.out.2 wr
            have hadd : ∀ w : World, (Op.stringOp .add (strOf (exL false (tx.take i))) (strOf (digL b))).run Tryd.prog w = .ok (.string (strOf (exL false (tx.take (i + 1))))) w := fun w => by rw [run_string_add_sum w _ _ (by rw [strOf_size, strOf_size]; have := exL_len false (tx.take i); have := List.length_take_le i tx; simp [digL]; omega), strOf_append, HX.out]
            clear HX hpc hlt
            go_wp2_with fail
            refine hdg.mono ?_
            rintro e w5 ⟨rfl, hb5⟩
            have b5 := hbw.trans (hb5.mono hbw.size)
            go_wp2
            go_roundw
            case rel => exact ⟨i + 1, rfl, by omega, rfl, b5⟩
            case measure => simp [intOf]; omega
        · have fa : ¬ ((97 : Int) ≤ ((b : Nat) : Int)) := by omega
          have fn : ¬ ((48 : Int) ≤ ((b : Nat) : Int)) := by omega
          have f32 : (((b : Nat) : Int) == 32) = false := by simp; omega
          have f123 : (((b : Nat) : Int) == 123) = false := by simp; omega
          have f34 : (((b : Nat) : Int) == 34) = false := by simp; omega
          have f94 : (((b : Nat) : Int) == 94) = false := by simp; omega
          have f45 : (((b : Nat) : Int) == 45) = true := by simp; omega
          have hlt : letB b = true := by unfold letB; simp; omega
          clear h
          cases p with
          | true =>
            have hpc : pcL true b = [b] := by unfold pcL; rw [hlt]; rfl
            have HX := Lib.hid (show exL true (tx.take (i + 1)) = exL true (tx.take i) ++ [b] by rw [takeSucc HTX.out.1, exL_snoc, hpc])
            have hcv := run_bstr wr b HTX.out.2
            have hadd : ∀ w : World, (Op.stringOp .add (strOf (exL true (tx.take i))) (strOf [b])).run Tryd.prog w = .ok (.string (strOf (exL true (tx.take (i + 1))))) w := fun w => by rw [run_string_add_sum w _ _ (by rw [strOf_size, strOf_size]; have := exL_len true (tx.take i); have := List.length_take_le i tx; simp; omega), strOf_append, HX.out]
            have b5 : Below w.heap.size w (wr.alloc (.cells #[.int .u8 ((b : Nat) : Int)] 5)) := hbw.trans (show Below w.heap.size wr (wr.alloc (.cells #[.int .u8 ((b : Nat) : Int)] 5)) by exact (show Below wr.heap.size wr _ by go_grown).mono hbw.size)
            clear HX hpc hlt
            go_wp2
            go_roundw
            case rel => exact ⟨i + 1, rfl, by omega, rfl, b5⟩
            case measure => simp [intOf]; omega
          | false =>
            have hpc : pcL false b = digL b := by unfold pcL; rw [hlt]; rfl
            have HX := Lib.hid (show exL false (tx.take (i + 1)) = exL false (tx.take i) ++ digL b by rw [takeSucc HTX.out.1, exL_snoc, hpc])
            have hdg := digits_any b HTX.out.2 wr
            have hadd : ∀ w : World, (Op.stringOp .add (strOf (exL false (tx.take i))) (strOf (digL b))).run Tryd.prog w = .ok (.string (strOf (exL false (tx.take (i + 1))))) w := fun w => by rw [run_string_add_sum w _ _ (by rw [strOf_size, strOf_size]; have := exL_len false (tx.take i); have := List.length_take_le i tx; simp [digL]; omega), strOf_append, HX.out]
            clear HX hpc hlt
            go_wp2_with fail
            refine hdg.mono ?_
            rintro e w5 ⟨rfl, hb5⟩
            have b5 := hbw.trans (hb5.mono hbw.size)
            go_wp2
            go_roundw
            case rel => exact ⟨i + 1, rfl, by omega, rfl, b5⟩
            case measure => simp [intOf]; omega
        · have fa : (97 : Int) ≤ ((b : Nat) : Int) := by omega
          have fz : ¬ (((b : Nat) : Int) ≤ (122 : Int)) := by omega
          have fn : (48 : Int) ≤ ((b : Nat) : Int) := by omega
          have fm : ¬ (((b : Nat) : Int) ≤ (57 : Int)) := by omega
          have f32 : (((b : Nat) : Int) == 32) = false := by simp; omega
          have f123 : (((b : Nat) : Int) == 123) = false := by simp; omega
          have f34 : (((b : Nat) : Int) == 34) = false := by simp; omega
          have f94 : (((b : Nat) : Int) == 94) = false := by simp; omega
          have f45 : (((b : Nat) : Int) == 45) = false := by simp; omega
          have hlt : letB b = false := by unfold letB; simp; omega
          clear h
          cases p with
          | true =>
            have hpc : pcL true b = digL b := by unfold pcL; rw [hlt]; rfl
            have HX := Lib.hid (show exL true (tx.take (i + 1)) = exL true (tx.take i) ++ digL b by rw [takeSucc HTX.out.1, exL_snoc, hpc])
            have hdg := digits_any b HTX.out.2 wr
            have hadd : ∀ w : World, (Op.stringOp .add (strOf (exL true (tx.take i))) (strOf (digL b))).run Tryd.prog w = .ok (.string (strOf (exL true (tx.take (i + 1))))) w := fun w => by rw [run_string_add_sum w _ _ (by rw [strOf_size, strOf_size]; have := exL_len true (tx.take i); have := List.length_take_le i tx; simp [digL]; omega), strOf_append, HX.out]
            clear HX hpc hlt
            go_wp2_with fail
            refine hdg.mono ?_
            rintro e w5 ⟨rfl, hb5⟩
            have b5 := hbw.trans (hb5.mono hbw.size)
            go_wp2
            go_roundw
            case rel => exact ⟨i + 1, rfl, by omega, rfl, b5⟩
            case measure => simp [intOf]; omega
          | false =>
            have hpc : pcL false b = digL b := by unfold pcL; rw [hlt]; rfl
            have HX := Lib.hid (show exL false (tx.take (i + 1)) = exL false (tx.take i) ++ digL b by rw [takeSucc HTX.out.1, exL_snoc, hpc])
            have hdg := digits_any b HTX.out.2 wr
            have hadd : ∀ w : World, (Op.stringOp .add (strOf (exL false (tx.take i))) (strOf (digL b))).run Tryd.prog w = .ok (.string (strOf (exL false (tx.take (i + 1))))) w := fun w => by rw [run_string_add_sum w _ _ (by rw [strOf_size, strOf_size]; have := exL_len false (tx.take i); have := List.length_take_le i tx; simp [digL]; omega), strOf_append, HX.out]
            clear HX hpc hlt
            go_wp2_with fail
            refine hdg.mono ?_
            rintro e w5 ⟨rfl, hb5⟩
            have b5 := hbw.trans (hb5.mono hbw.size)
            go_wp2
            go_roundw
            case rel => exact ⟨i + 1, rfl, by omega, rfl, b5⟩
            case measure => simp [intOf]; omega
        · have fa : ¬ ((97 : Int) ≤ ((b : Nat) : Int)) := by omega
          have fn : (48 : Int) ≤ ((b : Nat) : Int) := by omega
          have fm : ¬ (((b : Nat) : Int) ≤ (57 : Int)) := by omega
          have f32 : (((b : Nat) : Int) == 32) = false := by simp; omega
          have f123 : (((b : Nat) : Int) == 123) = false := by simp; omega
          have f34 : (((b : Nat) : Int) == 34) = false := by simp; omega
          have f94 : (((b : Nat) : Int) == 94) = false := by simp; omega
          have f45 : (((b : Nat) : Int) == 45) = false := by simp; omega
          have hlt : letB b = false := by unfold letB; simp; omega
          clear h
          cases p with
          | true =>
            have hpc : pcL true b = digL b := by unfold pcL; rw [hlt]; rfl
            have HX := Lib.hid (show exL true (tx.take (i + 1)) = exL true (tx.take i) ++ digL b by rw [takeSucc HTX.out.1, exL_snoc, hpc])
            have hdg := digits_any b HTX.out.2 wr
            have hadd : ∀ w : World, (Op.stringOp .add (strOf (exL true (tx.take i))) (strOf (digL b))).run Tryd.prog w = .ok (.string (strOf (exL true (tx.take (i + 1))))) w := fun w => by rw [run_string_add_sum w _ _ (by rw [strOf_size, strOf_size]; have := exL_len true (tx.take i); have := List.length_take_le i tx; simp [digL]; omega), strOf_append, HX.out]
            clear HX hpc hlt
            go_wp2_with fail
            refine hdg.mono ?_
            rintro e w5 ⟨rfl, hb5⟩
            have b5 := hbw.trans (hb5.mono hbw.size)
            go_wp2
            go_roundw
            case rel => exact ⟨i + 1, rfl, by omega, rfl, b5⟩
            case measure => simp [intOf]; omega
          | false =>
            have hpc : pcL false b = digL b := by unfold pcL; rw [hlt]; rfl
            have HX := Lib.hid (show exL false (tx.take (i + 1)) = exL false (tx.take i) ++ digL b by rw [takeSucc HTX.out.1, exL_snoc, hpc])
            have hdg := digits_any b HTX.out.2 wr
            have hadd : ∀ w : World, (Op.stringOp .add (strOf (exL false (tx.take i))) (strOf (digL b))).run Tryd.prog w = .ok (.string (strOf (exL false (tx.take (i + 1))))) w := fun w => by rw [run_string_add_sum w _ _ (by rw [strOf_size, strOf_size]; have := exL_len false (tx.take i); have := List.length_take_le i tx; simp [digL]; omega), strOf_append, HX.out]
            clear HX hpc hlt
            go_wp2_with fail
            refine hdg.mono ?_
            rintro e w5 ⟨rfl, hb5⟩
            have b5 := hbw.trans (hb5.mono hbw.size)
            go_wp2
            go_roundw
            case rel => exact ⟨i + 1, rfl, by omega, rfl, b5⟩
            case measure => simp [intOf]; omega
        · have fa : ¬ ((97 : Int) ≤ ((b : Nat) : Int)) := by omega
          have fn : ¬ ((48 : Int) ≤ ((b : Nat) : Int)) := by omega
          have f32 : (((b : Nat) : Int) == 32) = false := by simp; omega
          have f123 : (((b : Nat) : Int) == 123) = false := by simp; omega
          have f34 : (((b : Nat) : Int) == 34) = false := by simp; omega
          have f94 : (((b : Nat) : Int) == 94) = false := by simp; omega
          have f45 : (((b : Nat) : Int) == 45) = false := by simp; omega
          have hlt : letB b = false := by unfold letB; simp; omega
          clear h
          cases p with
          | true =>
            have hpc : pcL true b = digL b := by unfold pcL; rw [hlt]; rfl
            have HX := Lib.hid (show exL true (tx.take (i + 1)) = exL true (tx.take i) ++ digL b by rw [takeSucc HTX.out.1, exL_snoc, hpc])
            have hdg := digits_any b HTX.out.2 wr
            have hadd : ∀ w : World, (Op.stringOp .add (strOf (exL true (tx.take i))) (strOf (digL b))).run Tryd.prog w = .ok (.string (strOf (exL true (tx.take (i + 1))))) w := fun w => by rw [run_string_add_sum w _ _ (by rw [strOf_size, strOf_size]; have := exL_len true (tx.take i); have := List.length_take_le i tx; simp [digL]; omega), strOf_append, HX.out]
            clear HX hpc hlt
            go_wp2_with fail
            refine hdg.mono ?_
            rintro e w5 ⟨rfl, hb5⟩
            have b5 := hbw.trans (hb5.mono hbw.size)
            go_wp2
            go_roundw
            case rel => exact ⟨i + 1, rfl, by omega, rfl, b5⟩
            case measure => simp [intOf]; omega
          | false =>
            have hpc : pcL false b = digL b := by unfold pcL; rw [hlt]; rfl
            have HX := Lib.hid (show exL false (tx.take (i + 1)) = exL false (tx.take i) ++ digL b by rw [takeSucc HTX.out.1, exL_snoc, hpc])
            have hdg := digits_any b HTX.out.2 wr
            have hadd : ∀ w : World, (Op.stringOp .add (strOf (exL false (tx.take i))) (strOf (digL b))).run Tryd.prog w = .ok (.string (strOf (exL false (tx.take (i + 1))))) w := fun w => by rw [run_string_add_sum w _ _ (by rw [strOf_size, strOf_size]; have := exL_len false (tx.take i); have := List.length_take_le i tx; simp [digL]; omega), strOf_append, HX.out]
            clear HX hpc hlt
            go_wp2_with fail
            refine hdg.mono ?_
            rintro e w5 ⟨rfl, hb5⟩
            have b5 := hbw.trans (hb5.mono hbw.size)
            go_wp2
            go_roundw
            case rel => exact ⟨i + 1, rfl, by omega, rfl, b5⟩
            case measure => simp [intOf]; omega
  · have h64i : ¬ ((64 : Int) < ((m : Nat) : Int)) := by omega
    go_wp2
    go_loopw [7, 8] (fun sv iv wr => ∃ i : Nat, iv = .int .i64 ((i : Nat) : Int) ∧ i ≤ m ∧ sv = .string (strOf (exL p (tx.take i))) ∧ Below w.heap.size w wr) (fun _ iv _ => m - (intOf iv).toNat)
    case atStart => exact ⟨0, rfl, Nat.zero_le _, rfl, Below.refl _ _⟩
    case round =>
      obtain ⟨i, rfl, him, rfl, hbw⟩ := hrel
      by_cases hi : i = m
      · have him2 : ¬ (((i : Nat) : Int) < ((m : Nat) : Int)) := by omega
        have htk : tx.take i = tx := List.take_of_length_le (by have := HT.out.1; omega)
        rw [htk]
        have hlm := HT.out.1
        have hC := compile_any (strOf (exL p tx)) wr (HA.out.1.below hbw)
        have hlen := exL_len p tx
        clear htk hi
        go_wp2_with fail
        refine hC.mono ?_
        rintro e w1 ⟨hb1, hcm⟩
        have hbw1 := hbw.trans (hb1.mono hbw.size)
        clear hC
        by_cases h1 : 64 < (exL p tx).length
        · obtain rfl := hcm.fixLong (by rw [strOf_size]; exact h1)
          have hs1 : (64 : Int) < (((strOf (exL p tx)).size : Nat) : Int) := by rw [strOf_size]; omega
          clear hcm hlen
          go_wp2
          go_returns
          exact ⟨rfl, hbw1⟩
        · have hs1 : ¬ ((64 : Int) < (((strOf (exL p tx)).size : Nat) : Int)) := by rw [strOf_size]; omega
          have hpars := quo_pars (p := p) HT.out.2.2 (by omega)
          by_cases h2 : 64 ≤ m
          · obtain rfl := hcm.fixMany hpars (quo_many HT.out.2.2 (by omega))
            have hm2 : (64 : Int) ≤ ((m : Nat) : Int) := by omega
            clear hcm hlen hpars
            go_wp2
            go_returns
            exact ⟨rfl, hbw1⟩
          · obtain ⟨d, rfl, hd⟩ := hcm.fix hpars (quo_cmp HT.out.2.2 (by omega)) (lsQ_len tx) (qQ_len _ _)
            have hds := dfaS_of (t := quoT tx) (q := qQ tx.length tx.length) (ls := lsQ tx) (by rw [lsQ_len]; exact quo_cmp HT.out.2.2 (by omega)) (by rw [qQ_len, lsQ_len]) hd
            have hst := states_ok hds
            rw [lsQ_len, hlm] at hst
            have hm2 : ¬ ((64 : Int) ≤ ((m : Nat) : Int)) := by omega
            have hcp := copyBytes_any A m c (tx.map fun n => ((n : Nat) : Int)) (by rw [List.length_map]; exact hlm) (by omega) w1 (by rw [← U8_B8]; exact HT.out.2.1.below hbw1)
            have HS := Lib.hid hds
            clear hcm hlen hpars hd hds
            go_wp2_with fail
            refine hst.mono ?_
            rintro e w2 ⟨rfl, rfl⟩
            go_wp2_with fail
            refine hcp.mono ?_
            rintro e w3 ⟨v3, rfl, o3, b3⟩
            obtain ⟨A3, c3, rfl, _, r3⟩ := own_rd o3
            rw [← U8_B8] at r3
            have hm3 := match_any (HS.out.below b3) A3 m c3 tx r3 hlm HT.out.2.2 (by omega)
            rw [quo_match tx HT.out.2.2, decide_eq_true rfl] at hm3
            have hbw3 := hbw1.trans (b3.mono hbw1.size)
            have hco := copyBytes_any A' n' c' (ol.map fun n => ((n : Nat) : Int)) (by rw [List.length_map]; exact HA.out.2.1) HA.out.2.2.2.2.1 w3 (by rw [← U8_B8]; exact HA.out.2.2.1.below hbw3)
            clear r3 o3 hst hcp
            go_wp2_with fail
            refine hm3.mono ?_
            rintro e w4 ⟨rfl, rfl⟩
            go_wp2_with fail
            refine hco.mono ?_
            rintro e w4 ⟨v4, rfl, o4, b4⟩
            obtain ⟨A4, c4, rfl, _, r4⟩ := own_rd o4
            rw [← U8_B8] at r4
            have b34 := b3.trans (b4.mono b3.size)
            have hbw4 := hbw3.trans (b4.mono hbw3.size)
            have hm4 := match_any (HS.out.below b34) A4 n' c4 ol r4 HA.out.2.1 HA.out.2.2.2.1 (by have := HA.out.2.2.2.2.1; omega)
            rw [quo_match ol HA.out.2.2.2.1] at hm4
            have heq := eqBytes_any A A' m n' c c' (tx.map fun n => ((n : Nat) : Int)) (ol.map fun n => ((n : Nat) : Int)) (by rw [List.length_map]; exact hlm) (by rw [List.length_map]; exact HA.out.2.1) (by omega) w4 (by rw [← U8_B8]; exact HT.out.2.1.below hbw4) (by rw [← U8_B8]; exact HA.out.2.2.1.below hbw4)
            rw [map_int_eq] at heq
            clear r4 o4 hm3 hco
            go_wp2_with fail
            refine hm4.mono ?_
            rintro e w5 ⟨rfl, rfl⟩
            go_wp2_with fail
            refine heq.mono ?_
            rintro e w5 ⟨rfl, b5⟩
            have hbw5 := hbw4.trans (b5.mono hbw4.size)
            have b35 := b34.trans (b5.mono b34.size)
            have hcq := copyBytes_any A m c (tx.map fun n => ((n : Nat) : Int)) (by rw [List.length_map]; exact hlm) (by omega) w5 (by rw [← U8_B8]; exact HT.out.2.1.below hbw5)
            clear hm4 heq
            generalize decide (ol = tx) = same at *
            go_wp2_with fail
            refine hcq.mono ?_
            rintro e w6 ⟨v6, rfl, o6, b6⟩
            have q7 := Blk.new w6 #[.int .u8 7] 5
            have b67 : Below w6.heap.size w6 (w6.alloc (.cells #[.int .u8 7] 5)) := by go_grown
            have o7 := own_below o6 b67
            have h7le : w5.heap.size ≤ (w6.alloc (.cells #[.int .u8 7] 5)).heap.size := Nat.le_trans b6.size b67.size
            have b57 : Below w5.heap.size w5 (w6.alloc (.cells #[.int .u8 7] 5)) := b6.trans (b67.mono b6.size)
            have own5 := own_lt o7
            have own5 := own_lt o7
            clear hcq
            go_wp2_with (at_builtin; refine appG w5.heap.size (by rfl) _ _ 37 5 (.int .u8 0) 1 1 rfl Tryd.underlying37 info5 rfl (by decide) (by decide) v6 m (B8 (tx.map fun n => ((n : Nat) : Int))) w6.heap.size #[.int .u8 7] rfl rfl rfl (by simp [Value.oneCell']) q7 o7 h7le (by omega) ?_; intro g8 cap8 w8 os8 hg8 _)
            have b58 := b57.grown hg8 h7le (fun k hk => (own5 k hk).1)
            have hbw8 := hbw5.trans (b58.mono hbw5.size)
            have r8 : Rd w8 (some ⟨g8, 0, none⟩) (U8 (tx ++ [7])) := by
              have h := own_rdA os8
              have e : U8 (tx ++ [7]) = B8 (tx.map fun n => ((n : Nat) : Int)) ++ (#[Value.int .u8 7] : Array Value).toList := by rw [← U8_B8]; simp [U8]
              rw [e]
              exact h
            have hm8 := match_any (HS.out.below (b35.trans (b58.mono b35.size))) (some ⟨g8, 0, none⟩) (m + 1) cap8 (tx ++ [7]) r8 (by rw [List.length_append, hlm]; rfl) (fun b hb => by
              rcases List.mem_append.1 hb with h | h
              · exact HT.out.2.2 b h
              · rw [List.mem_singleton.1 h]; decide) (by omega)
            rw [quo_match (tx ++ [7]) (fun b hb => by
              rcases List.mem_append.1 hb with h | h
              · exact HT.out.2.2 b h
              · rw [List.mem_singleton.1 h]; decide), decide_eq_false (fun h => by have := congrArg List.length h; simp at this)] at hm8
            clear r8 os8 hg8
            refine hm8.mono ?_
            rintro e w9 ⟨rfl, rfl⟩
            go_wp2
            go_returns
            exact ⟨by simp, hbw8⟩
      · have him2 : ((i : Nat) : Int) < ((m : Nat) : Int) := by omega
        obtain ⟨b, hbi⟩ : ∃ b, tx[i]? = some b := ⟨_, List.getElem?_eq_getElem (by have := HT.out.1; omega)⟩
        have hb256 := HT.out.2.2 b (List.mem_of_getElem? hbi)
        have HTX := Lib.hid (And.intro hbi hb256)
        obtain ⟨g, o, rfl, hcell⟩ := (HT.out.2.1.below hbw).at i (by unfold U8; rw [List.length_map]; exact lt_of_some hbi)
        have hc2 : wr.cell? ⟨g, o + i, none⟩ = some (.int .u8 ((b : Nat) : Int)) := by
          rw [hcell, ← List.getElem?_eq_getElem]
          unfold U8
          rw [List.getElem?_map, hbi]
          rfl
        have e0 : (⟨g, o, none⟩ : Addr).add i = ⟨g, o + i, none⟩ := addr_add g o i
        clear hcell hbi
        rcases (show (97 ≤ b ∧ b ≤ 122) ∨ (48 ≤ b ∧ b ≤ 57) ∨ (b = 32) ∨ (b = 123) ∨ (b = 34) ∨ (b = 94) ∨ (b = 45) ∨ (123 < b) ∨ (57 < b ∧ b < 97 ∧ b ≠ 94) ∨ (b < 48 ∧ b ≠ 32 ∧ b ≠ 34 ∧ b ≠ 45) by omega) with h | h | h | h | h | h | h | h | h | h
        · have fa : (97 : Int) ≤ ((b : Nat) : Int) := by omega
          have fz : ((b : Nat) : Int) ≤ (122 : Int) := by omega
          have hlt : letB b = true := by unfold letB; simp; omega
          clear h
          cases p with
          | true =>
            have hpc : pcL true b = [b] := by unfold pcL; rw [hlt]; rfl
            have HX := Lib.hid (show exL true (tx.take (i + 1)) = exL true (tx.take i) ++ [b] by rw [takeSucc HTX.out.1, exL_snoc, hpc])
            have hcv := run_bstr wr b HTX.out.2
            have hadd : ∀ w : World, (Op.stringOp .add (strOf (exL true (tx.take i))) (strOf [b])).run Tryd.prog w = .ok (.string (strOf (exL true (tx.take (i + 1))))) w := fun w => by rw [run_string_add_sum w _ _ (by rw [strOf_size, strOf_size]; have := exL_len true (tx.take i); have := List.length_take_le i tx; simp; omega), strOf_append, HX.out]
            have b5 : Below w.heap.size w (wr.alloc (.cells #[.int .u8 ((b : Nat) : Int)] 5)) := hbw.trans (show Below w.heap.size wr (wr.alloc (.cells #[.int .u8 ((b : Nat) : Int)] 5)) by exact (show Below wr.heap.size wr _ by go_grown).mono hbw.size)
            clear HX hpc hlt
            go_wp2
            go_roundw
            case rel => exact ⟨i + 1, rfl, by omega, rfl, b5⟩
            case measure => simp [intOf]; omega
          | false =>
            have hpc : pcL false b = digL b := by unfold pcL; rw [hlt]; rfl
            have HX := Lib.hid (show exL false (tx.take (i + 1)) = exL false (tx.take i) ++ digL b by rw [takeSucc HTX.out.1, exL_snoc, hpc])
            have hdg := digits_any b HTX.out.2 wr
            have hadd : ∀ w : World, (Op.stringOp .add (strOf (exL false (tx.take i))) (strOf (digL b))).run Tryd.prog w = .ok (.string (strOf (exL false (tx.take (i + 1))))) w := fun w => by rw [run_string_add_sum w _ _ (by rw [strOf_size, strOf_size]; have := exL_len false (tx.take i); have := List.length_take_le i tx; simp [digL]; omega), strOf_append, HX.out]
            clear HX hpc hlt
            go_wp2_with fail
            refine hdg.mono ?_
            rintro e w5 ⟨rfl, hb5⟩
            have b5 := hbw.trans (hb5.mono hbw.size)
            go_wp2
            go_roundw
            case rel => exact ⟨i + 1, rfl, by omega, rfl, b5⟩
            case measure => simp [intOf]; omega
        · have fa : ¬ ((97 : Int) ≤ ((b : Nat) : Int)) := by omega
          have fn : (48 : Int) ≤ ((b : Nat) : Int) := by omega
          have fm : ((b : Nat) : Int) ≤ (57 : Int) := by omega
          have hlt : letB b = true := by unfold letB; simp; omega
          clear h
          cases p with
          | true =>
            have hpc : pcL true b = [b] := by unfold pcL; rw [hlt]; rfl
            have HX := Lib.hid (show exL true (tx.take (i + 1)) = exL true (tx.take i) ++ [b] by rw [takeSucc HTX.out.1, exL_snoc, hpc])
            have hcv := run_bstr wr b HTX.out.2
            have hadd : ∀ w : World, (Op.stringOp .add (strOf (exL true (tx.take i))) (strOf [b])).run Tryd.prog w = .ok (.string (strOf (exL true (tx.take (i + 1))))) w := fun w => by rw [run_string_add_sum w _ _ (by rw [strOf_size, strOf_size]; have := exL_len true (tx.take i); have := List.length_take_le i tx; simp; omega), strOf_append, HX.out]
            have b5 : Below w.heap.size w (wr.alloc (.cells #[.int .u8 ((b : Nat) : Int)] 5)) := hbw.trans (show Below w.heap.size wr (wr.alloc (.cells #[.int .u8 ((b : Nat) : Int)] 5)) by exact (show Below wr.heap.size wr _ by go_grown).mono hbw.size)
            clear HX hpc hlt
            go_wp2
            go_roundw
            case rel => exact ⟨i + 1, rfl, by omega, rfl, b5⟩
            case measure => simp [intOf]; omega
          | false =>
            have hpc : pcL false b = digL b := by unfold pcL; rw [hlt]; rfl
            have HX := Lib.hid (show exL false (tx.take (i + 1)) = exL false (tx.take i) ++ digL b by rw [takeSucc HTX.out.1, exL_snoc, hpc])
            have hdg := digits_any b HTX.out.2 wr
            have hadd : ∀ w : World, (Op.stringOp .add (strOf (exL false (tx.take i))) (strOf (digL b))).run Tryd.prog w = .ok (.string (strOf (exL false (tx.take (i + 1))))) w := fun w => by rw [run_string_add_sum w _ _ (by rw [strOf_size, strOf_size]; have := exL_len false (tx.take i); have := List.length_take_le i tx; simp [digL]; omega), strOf_append, HX.out]
            clear HX hpc hlt
            go_wp2_with fail
            refine hdg.mono ?_
            rintro e w5 ⟨rfl, hb5⟩
            have b5 := hbw.trans (hb5.mono hbw.size)
            go_wp2
            go_roundw
            case rel => exact ⟨i + 1, rfl, by omega, rfl, b5⟩
            case measure => simp [intOf]; omega
        · have fa : ¬ ((97 : Int) ≤ ((b : Nat) : Int)) := by omega
          have fn : ¬ ((48 : Int) ≤ ((b : Nat) : Int)) := by omega
          have f32 : (((b : Nat) : Int) == 32) = true := by simp; omega
          have hlt : letB b = true := by unfold letB; simp; omega
          clear h
          cases p with
          | true =>
            have hpc : pcL true b = [b] := by unfold pcL; rw [hlt]; rfl
            have HX := Lib.hid (show exL true (tx.take (i + 1)) = exL true (tx.take i) ++ [b] by rw [takeSucc HTX.out.1, exL_snoc, hpc])
            have hcv := run_bstr wr b HTX.out.2
            have hadd : ∀ w : World, (Op.stringOp .add (strOf (exL true (tx.take i))) (strOf [b])).run Tryd.prog w = .ok (.string (strOf (exL true (tx.take (i + 1))))) w := fun w => by rw [run_string_add_sum w _ _ (by rw [strOf_size, strOf_size]; have := exL_len true (tx.take i); have := List.length_take_le i tx; simp; omega), strOf_append, HX.out]
            have b5 : Below w.heap.size w (wr.alloc (.cells #[.int .u8 ((b : Nat) : Int)] 5)) := hbw.trans (show Below w.heap.size wr (wr.alloc (.cells #[.int .u8 ((b : Nat) : Int)] 5)) by exact (show Below wr.heap.size wr _ by go_grown).mono hbw.size)
            clear HX hpc hlt
            go_wp2
            go_roundw
            case rel => exact ⟨i + 1, rfl, by omega, rfl, b5⟩
            case measure => simp [intOf]; omega
          | false =>
            have hpc : pcL false b = digL b := by unfold pcL; rw [hlt]; rfl
            have HX := Lib.hid (show exL false (tx.take (i + 1)) = exL false (tx.take i) ++ digL b by rw [takeSucc HTX.out.1, exL_snoc, hpc])
            have hdg := digits_any b HTX.out.2 wr
            have hadd : ∀ w : World, (Op.stringOp .add (strOf (exL false (tx.take i))) (strOf (digL b))).run Tryd.prog w = .ok (.string (strOf (exL false (tx.take (i + 1))))) w := fun w => by rw [run_string_add_sum w _ _ (by rw [strOf_size, strOf_size]; have := exL_len false (tx.take i); have := List.length_take_le i tx; simp [digL]; omega), strOf_append, HX.out]
            clear HX hpc hlt
            go_wp2_with fail
            refine hdg.mono ?_
            rintro e w5 ⟨rfl, hb5⟩
            have b5 := hbw.trans (hb5.mono hbw.size)
            go_wp2
            go_roundw
            case rel => exact ⟨i + 1, rfl, by omega, rfl, b5⟩
            case measure => simp [intOf]; omega
        · have fa : (97 : Int) ≤ ((b : Nat) : Int) := by omega
          have fz : ¬ (((b : Nat) : Int) ≤ (122 : Int)) := by omega
          have fn : (48 : Int) ≤ ((b : Nat) : Int) := by omega
          have fm : ¬ (((b : Nat) : Int) ≤ (57 : Int)) := by omega
          have f32 : (((b : Nat) : Int) == 32) = false := by simp; omega
          have f123 : (((b : Nat) : Int) == 123) = true := by simp; omega
          have hlt : letB b = true := by unfold letB; simp; omega
          clear h
          cases p with
          | true =>
            have hpc : pcL true b = [b] := by unfold pcL; rw [hlt]; rfl
            have HX := Lib.hid (show exL true (tx.take (i + 1)) = exL true (tx.take i) ++ [b] by rw [takeSucc HTX.out.1, exL_snoc, hpc])
            have hcv := run_bstr wr b HTX.out.2
            have hadd : ∀ w : World, (Op.stringOp .add (strOf (exL true (tx.take i))) (strOf [b])).run Tryd.prog w = .ok (.string (strOf (exL true (tx.take (i + 1))))) w := fun w => by rw [run_string_add_sum w _ _ (by rw [strOf_size, strOf_size]; have := exL_len true (tx.take i); have := List.length_take_le i tx; simp; omega), strOf_append, HX.out]
            have b5 : Below w.heap.size w (wr.alloc (.cells #[.int .u8 ((b : Nat) : Int)] 5)) := hbw.trans (show Below w.heap.size wr (wr.alloc (.cells #[.int .u8 ((b : Nat) : Int)] 5)) by exact (show Below wr.heap.size wr _ by go_grown).mono hbw.size)
            clear HX hpc hlt
            go_wp2
            go_roundw
            case rel => exact ⟨i + 1, rfl, by omega, rfl, b5⟩
            case measure => simp [intOf]; omega
          | false =>
            have hpc : pcL false b = digL b := by unfold pcL; rw [hlt]; rfl
            have HX := Lib.hid (show exL false (tx.take (i + 1)) = exL false (tx.take i) ++ digL b by rw [takeSucc HTX.out.1, exL_snoc, hpc])
            have hdg := digits_any b HTX.out.2 wr
            have hadd : ∀ w : World, (Op.stringOp .add (strOf (exL false (tx.take i))) (strOf (digL b))).run Tryd.prog w = .ok (.string (strOf (exL false (tx.take (i + 1))))) w := fun w => by rw [run_string_add_sum w _ _ (by rw [strOf_size, strOf_size]; have := exL_len false (tx.take i); have := List.length_take_le i tx; simp [digL]; omega), strOf_append, HX.out]
            clear HX hpc hlt
            go_wp2_with fail
            refine hdg.mono ?_
            rintro e w5 ⟨rfl, hb5⟩
            have b5 := hbw.trans (hb5.mono hbw.size)
            go_wp2
            go_roundw
            case rel => exact ⟨i + 1, rfl, by omega, rfl, b5⟩
            case measure => simp [intOf]; omega
        · have fa : ¬ ((97 : Int) ≤ ((b : Nat) : Int)) := by omega
          have fn : ¬ ((48 : Int) ≤ ((b : Nat) : Int)) := by omega
          have f32 : (((b : Nat) : Int) == 32) = false := by simp; omega
          have f123 : (((b : Nat) : Int) == 123) = false := by simp; omega
          have f34 : (((b : Nat) : Int) == 34) = true := by simp; omega
          have hlt : letB b = true := by unfold letB; simp; omega
          clear h
          cases p with
          | true =>
            have hpc : pcL true b = [b] := by unfold pcL; rw [hlt]; rfl
            have HX := Lib.hid (show exL true (tx.take (i + 1)) = exL true (tx.take i) ++ [b] by rw [takeSucc HTX.out.1, exL_snoc, hpc])
            have hcv := run_bstr wr b HTX.out.2
            have hadd : ∀ w : World, (Op.stringOp .add (strOf (exL true (tx.take i))) (strOf [b])).run Tryd.prog w = .ok (.string (strOf (exL true (tx.take (i + 1))))) w := fun w => by rw [run_string_add_sum w _ _ (by rw [strOf_size, strOf_size]; have := exL_len true (tx.take i); have := List.length_take_le i tx; simp; omega), strOf_append, HX.out]
            have b5 : Below w.heap.size w (wr.alloc (.cells #[.int .u8 ((b : Nat) : Int)] 5)) := hbw.trans (show Below w.heap.size wr (wr.alloc (.cells #[.int .u8 ((b : Nat) : Int)] 5)) by exact (show Below wr.heap.size wr _ by go_grown).mono hbw.size)
            clear HX hpc hlt
            go_wp2
            go_roundw
            case rel => exact ⟨i + 1, rfl, by omega, rfl, b5⟩
            case measure => simp [intOf]; omega
          | false =>
            have hpc : pcL false b = digL b := by unfold pcL; rw [hlt]; rfl
            have HX := Lib.hid (show exL false (tx.take (i + 1)) = exL false (tx.take i) ++ digL b by rw [takeSucc HTX.out.1, exL_snoc, hpc])
            have hdg := digits_any b HTX.out.2 wr
            have hadd : ∀ w : World, (Op.stringOp .add (strOf (exL false (tx.take i))) (strOf (digL b))).run Tryd.prog w = .ok (.string (strOf (exL false (tx.take (i + 1))))) w := fun w => by rw [run_string_add_sum w _ _ (by rw [strOf_size, strOf_size]; have := exL_len false (tx.take i); have := List.length_take_le i tx; simp [digL]; omega), strOf_append, HX.out]
            clear HX hpc hlt
            go_wp2_with fail
            refine hdg.mono ?_
            rintro e w5 ⟨rfl, hb5⟩
            have b5 := hbw.trans (hb5.mono hbw.size)
            go_wp2
            go_roundw
            case rel => exact ⟨i + 1, rfl, by omega, rfl, b5⟩
            case measure => simp [intOf]; omega
        · have fa : ¬ ((97 : Int) ≤ ((b : Nat) : Int)) := by omega
          have fn : (48 : Int) ≤ ((b : Nat) : Int) := by omega
          have fm : ¬ (((b : Nat) : Int) ≤ (57 : Int)) := by omega
          have f32 : (((b : Nat) : Int) == 32) = false := by simp; omega
          have f123 : (((b : Nat) : Int) == 123) = false := by simp; omega
          have f34 : (((b : Nat) : Int) == 34) = false := by simp; omega
          have f94 : (((b : Nat) : Int) == 94) = true := by simp; omega
          have hlt : letB b = true := by unfold letB; simp; omega
          clear h
          cases p with
          | true =>
            have hpc : pcL true b = [b] := by unfold pcL; rw [hlt]; rfl
            have HX := Lib.hid (show exL true (tx.take (i + 1)) = exL true (tx.take i) ++ [b] by rw [takeSucc HTX.out.1, exL_snoc, hpc])
            have hcv := run_bstr wr b HTX.out.2
            have hadd : ∀ w : World, (Op.stringOp .add (strOf (exL true (tx.take i))) (strOf [b])).run Tryd.prog w = .ok (.string (strOf (exL true (tx.take (i + 1))))) w := fun w => by rw [run_string_add_sum w _ _ (by rw [strOf_size, strOf_size]; have := exL_len true (tx.take i); have := List.length_take_le i tx; simp; omega), strOf_append, HX.out]
            have b5 : Below w.heap.size w (wr.alloc (.cells #[.int .u8 ((b : Nat) : Int)] 5)) := hbw.trans (show Below w.heap.size wr (wr.alloc (.cells #[.int .u8 ((b : Nat) : Int)] 5)) by exact (show Below wr.heap.size wr _ by go_grown).mono hbw.size)
            clear HX hpc hlt
            go_wp2
            go_roundw
            case rel => exact ⟨i + 1, rfl, by omega, rfl, b5⟩
            case measure => simp [intOf]; omega
          | false =>
            have hpc : pcL false b = digL b := by unfold pcL; rw [hlt]; rfl
            have HX := Lib.hid (show exL false (tx.take (i + 1)) = exL false (tx.take i) ++ digL b by rw [takeSucc HTX.out.1, exL_snoc, hpc])
            have hdg := digits_any b HTX.out.2 wr
            have hadd : ∀ w : World, (Op.stringOp .add (strOf (exL false (tx.take i))) (strOf (digL b))).run Tryd.prog w = .ok (.string (strOf (exL false (tx.take (i + 1))))) w := fun w => by rw [run_string_add_sum w _ _ (by rw [strOf_size, strOf_size]; have := exL_len false (tx.take i); have := List.length_take_le i tx; simp [digL]; omega), strOf_append, HX.out]
            clear HX hpc hlt
            go_wp2_with fail
            refine hdg.mono ?_
            rintro e w5 ⟨rfl, hb5⟩
            have b5 := hbw.trans (hb5.mono hbw.size)
            go_wp2
            go_roundw
            case rel => exact ⟨i + 1, rfl, by omega, rfl, b5⟩
            case measure => simp [intOf]; omega
        · have fa : ¬ ((97 : Int) ≤ ((b : Nat) : Int)) := by omega
          have fn : ¬ ((48 : Int) ≤ ((b : Nat) : Int)) := by omega
          have f32 : (((b : Nat) : Int) == 32) = false := by simp; omega
          have f123 : (((b : Nat) : Int) == 123) = false := by simp; omega
          have f34 : (((b : Nat) : Int) == 34) = false := by simp; omega
          have f94 : (((b : Nat) : Int) == 94) = false := by simp; omega
          have f45 : (((b : Nat) : Int) == 45) = true := by simp; omega
          have hlt : letB b = true := by unfold letB; simp; omega
          clear h
          cases p with
          | true =>
            have hpc : pcL true b = [b] := by unfold pcL; rw [hlt]; rfl
            have HX := Lib.hid (show exL true (tx.take (i + 1)) = exL true (tx.take i) ++ [b] by rw [takeSucc HTX.out.1, exL_snoc, hpc])
            have hcv := run_bstr wr b HTX.out.2
            have hadd : ∀ w : World, (Op.stringOp .add (strOf (exL true (tx.take i))) (strOf [b])).run Tryd.prog w = .ok (.string (strOf (exL true (tx.take (i + 1))))) w := fun w => by rw [run_string_add_sum w _ _ (by rw [strOf_size, strOf_size]; have := exL_len true (tx.take i); have := List.length_take_le i tx; simp; omega), strOf_append, HX.out]
            have b5 : Below w.heap.size w (wr.alloc (.cells #[.int .u8 ((b : Nat) : Int)] 5)) := hbw.trans (show Below w.heap.size wr (wr.alloc (.cells #[.int .u8 ((b : Nat) : Int)] 5)) by exact (show Below wr.heap.size wr _ by go_grown).mono hbw.size)
            clear HX hpc hlt
            go_wp2
            go_roundw
            case rel => exact ⟨i + 1, rfl, by omega, rfl, b5⟩
            case measure => simp [intOf]; omega
          | false =>
            have hpc : pcL false b = digL b := by unfold pcL; rw [hlt]; rfl
            have HX := Lib.hid (show exL false (tx.take (i + 1)) = exL false (tx.take i) ++ digL b by rw [takeSucc HTX.out.1, exL_snoc, hpc])
            have hdg := digits_any b HTX.out.2 wr
            have hadd : ∀ w : World, (Op.stringOp .add (strOf (exL false (tx.take i))) (strOf (digL b))).run Tryd.prog w = .ok (.string (strOf (exL false (tx.take (i + 1))))) w := fun w => by rw [run_string_add_sum w _ _ (by rw [strOf_size, strOf_size]; have := exL_len false (tx.take i); have := List.length_take_le i tx; simp [digL]; omega), strOf_append, HX.out]
            clear HX hpc hlt
            go_wp2_with fail
            refine hdg.mono ?_
            rintro e w5 ⟨rfl, hb5⟩
            have b5 := hbw.trans (hb5.mono hbw.size)
            go_wp2
            go_roundw
            case rel => exact ⟨i + 1, rfl, by omega, rfl, b5⟩
            case measure => simp [intOf]; omega
        · have fa : (97 : Int) ≤ ((b : Nat) : Int) := by omega
          have fz : ¬ (((b : Nat) : Int) ≤ (122 : Int)) := by omega
          have fn : (48 : Int) ≤ ((b : Nat) : Int) := by omega
          have fm : ¬ (((b : Nat) : Int) ≤ (57 : Int)) := by omega
          have f32 : (((b : Nat) : Int) == 32) = false := by simp; omega
          have f123 : (((b : Nat) : Int) == 123) = false := by simp; omega
          have f34 : (((b : Nat) : Int) == 34) = false := by simp; omega
          have f94 : (((b : Nat) : Int) == 94) = false := by simp; omega
          have f45 : (((b : Nat) : Int) == 45) = false := by simp; omega
          have hlt : letB b = false := by unfold letB; simp; omega
          clear h
          cases p with
          | true =>
            have hpc : pcL true b = digL b := by unfold pcL; rw [hlt]; rfl
            have HX := Lib.hid (show exL true (tx.take (i + 1)) = exL true (tx.take i) ++ digL b by rw [takeSucc HTX.out.1, exL_snoc, hpc])
            have hdg := digits_any b HTX.out.2 wr
            have hadd : ∀ w : World, (Op.stringOp .add (strOf (exL true (tx.take i))) (strOf (digL b))).run Tryd.prog w = .ok (.string (strOf (exL true (tx.take (i + 1))))) w := fun w => by rw [run_string_add_sum w _ _ (by rw [strOf_size, strOf_size]; have := exL_len true (tx.take i); have := List.length_take_le i tx; simp [digL]; omega), strOf_append, HX.out]
            clear HX hpc hlt
            go_wp2_with fail
            refine hdg.mono ?_
            rintro e w5 ⟨rfl, hb5⟩
            have b5 := hbw.trans (hb5.mono hbw.size)
            go_wp2
            go_roundw
            case rel => exact ⟨i + 1, rfl, by omega, rfl, b5⟩
            case measure => simp [intOf]; omega
          | false =>
            have hpc : pcL false b = digL b := by unfold pcL; rw [hlt]; rfl
            have HX := Lib.hid (show exL false (tx.take (i + 1)) = exL false (tx.take i) ++ digL b by rw [takeSucc HTX.out.1, exL_snoc, hpc])
            have hdg := digits_any b HTX.out.2 wr
            have hadd : ∀ w : World, (Op.stringOp .add (strOf (exL false (tx.take i))) (strOf (digL b))).run Tryd.prog w = .ok (.string (strOf (exL false (tx.take (i + 1))))) w := fun w => by rw [run_string_add_sum w _ _ (by rw [strOf_size, strOf_size]; have := exL_len false (tx.take i); have := List.length_take_le i tx; simp [digL]; omega), strOf_append, HX.out]
            clear HX hpc hlt
            go_wp2_with fail
            refine hdg.mono ?_
            rintro e w5 ⟨rfl, hb5⟩
            have b5 := hbw.trans (hb5.mono hbw.size)
            go_wp2
            go_roundw
            case rel => exact ⟨i + 1, rfl, by omega, rfl, b5⟩
            case measure => simp [intOf]; omega
        · have fa : ¬ ((97 : Int) ≤ ((b : Nat) : Int)) := by omega
          have fn : (48 : Int) ≤ ((b : Nat) : Int) := by omega
          have fm : ¬ (((b : Nat) : Int) ≤ (57 : Int)) := by omega
          have f32 : (((b : Nat) : Int) == 32) = false := by simp; omega
          have f123 : (((b : Nat) : Int) == 123) = false := by simp; omega
          have f34 : (((b : Nat) : Int) == 34) = false := by simp; omega
          have f94 : (((b : Nat) : Int) == 94) = false := by simp; omega
          have f45 : (((b : Nat) : Int) == 45) = false := by simp; omega
          have hlt : letB b = false := by unfold letB; simp; omega
          clear h
          cases p with
          | true =>
            have hpc : pcL true b = digL b := by unfold pcL; rw [hlt]; rfl
            have HX := Lib.hid (show exL true (tx.take (i + 1)) = exL true (tx.take i) ++ digL b by rw [takeSucc HTX.out.1, exL_snoc, hpc])
            have hdg := digits_any b HTX.out.2 wr
            have hadd : ∀ w : World, (Op.stringOp .add (strOf (exL true (tx.take i))) (strOf (digL b))).run Tryd.prog w = .ok (.string (strOf (exL true (tx.take (i + 1))))) w := fun w => by rw [run_string_add_sum w _ _ (by rw [strOf_size, strOf_size]; have := exL_len true (tx.take i); have := List.length_take_le i tx; simp [digL]; omega), strOf_append, HX.out]
            clear HX hpc hlt
            go_wp2_with fail
            refine hdg.mono ?_
            rintro e w5 ⟨rfl, hb5⟩
            have b5 := hbw.trans (hb5.mono hbw.size)
            go_wp2
            go_roundw
            case rel => exact ⟨i + 1, rfl, by omega, rfl, b5⟩
            case measure => simp [intOf]; omega
          | false =>
            have hpc : pcL false b = digL b := by unfold pcL; rw [hlt]; rfl
            have HX := Lib.hid (show exL false (tx.take (i + 1)) = exL false (tx.take i) ++ digL b by rw [takeSucc HTX.out.1, exL_snoc, hpc])
            have hdg := digits_any b HTX.out.2 wr
            have hadd : ∀ w : World, (Op.stringOp .add (strOf (exL false (tx.take i))) (strOf (digL b))).run Tryd.prog w = .ok (.string (strOf (exL false (tx.take (i + 1))))) w := fun w => by rw [run_string_add_sum w _ _ (by rw [strOf_size, strOf_size]; have := exL_len false (tx.take i); have := List.length_take_le i tx; simp [digL]; omega), strOf_append, HX.out]
            clear HX hpc hlt
            go_wp2_with fail
            refine hdg.mono ?_
            rintro e w5 ⟨rfl, hb5⟩
            have b5 := hbw.trans (hb5.mono hbw.size)
            go_wp2
            go_roundw
            case rel => exact ⟨i + 1, rfl, by omega, rfl, b5⟩
            case measure => simp [intOf]; omega
        · have fa : ¬ ((97 : Int) ≤ ((b : Nat) : Int)) := by omega
          have fn : ¬ ((48 : Int) ≤ ((b : Nat) : Int)) := by omega
          have f32 : (((b : Nat) : Int) == 32) = false := by simp; omega
          have f123 : (((b : Nat) : Int) == 123) = false := by simp; omega
          have f34 : (((b : Nat) : Int) == 34) = false := by simp; omega
          have f94 : (((b : Nat) : Int) == 94) = false := by simp; omega
          have f45 : (((b : Nat) : Int) == 45) = false := by simp; omega
          have hlt : letB b = false := by unfold letB; simp; omega
          clear h
          cases p with
          | true =>
            have hpc : pcL true b = digL b := by unfold pcL; rw [hlt]; rfl
            have HX := Lib.hid (show exL true (tx.take (i + 1)) = exL true (tx.take i) ++ digL b by rw [takeSucc HTX.out.1, exL_snoc, hpc])
            have hdg := digits_any b HTX.out.2 wr
            have hadd : ∀ w : World, (Op.stringOp .add (strOf (exL true (tx.take i))) (strOf (digL b))).run Tryd.prog w = .ok (.string (strOf (exL true (tx.take (i + 1))))) w := fun w => by rw [run_string_add_sum w _ _ (by rw [strOf_size, strOf_size]; have := exL_len true (tx.take i); have := List.length_take_le i tx; simp [digL]; omega), strOf_append, HX.out]
            clear HX hpc hlt
            go_wp2_with fail
            refine hdg.mono ?_
            rintro e w5 ⟨rfl, hb5⟩
            have b5 := hbw.trans (hb5.mono hbw.size)
            go_wp2
            go_roundw
            case rel => exact ⟨i + 1, rfl, by omega, rfl, b5⟩
            case measure => simp [intOf]; omega
          | false =>
            have hpc : pcL false b = digL b := by unfold pcL; rw [hlt]; rfl
            have HX := Lib.hid (show exL false (tx.take (i + 1)) = exL false (tx.take i) ++ digL b by rw [takeSucc HTX.out.1, exL_snoc, hpc])
            have hdg := digits_any b HTX.out.2 wr
            have hadd : ∀ w : World, (Op.stringOp .add (strOf (exL false (tx.take i))) (strOf (digL b))).run Tryd.prog w = .ok (.string (strOf (exL false (tx.take (i + 1))))) w := fun w => by rw [run_string_add_sum w _ _ (by rw [strOf_size, strOf_size]; have := exL_len false (tx.take i); have := List.length_take_le i tx; simp [digL]; omega), strOf_append, HX.out]
            clear HX hpc hlt
            go_wp2_with fail
            refine hdg.mono ?_
            rintro e w5 ⟨rfl, hb5⟩
            have b5 := hbw.trans (hb5.mono hbw.size)
            go_wp2
            go_roundw
            case rel => exact ⟨i + 1, rfl, by omega, rfl, b5⟩
            case measure => simp [intOf]; omega
end Go.Proofs.YtlocogccjlecjaaDoor
