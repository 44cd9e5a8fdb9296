import Derived.Test.YtlocogccjlecjaaDoorCmX
import Derived.Test.YtlocogccjlecjaaDoorRdZ
import Derived.Test.YtlocogccjlecjaaDoorFolP
import Derived.Carry
import Derived.Deep.WholeRow
/- Compile: what it answers; ahead of its loop. -/
namespace Go.Proofs.YtlocogccjlecjaaDoor
open Go.RowKit
/-- the first n rows of a tree's automaton -/
def cmpT (t : Rx) (n : Nat) : Option (List St × List (List Int)) := cmpC (rdF t [] []).2.1 (rdF t [] []).2.2 (rdF t [] []).1.l ((rdF t [] []).1.f, (rdF t [] []).1.e) n
/-- an automaton in memory -/
def Dfa (base : Nat) (w : World) (d : Nat) (q : List St) (ls : List (List Int)) : Prop := base ≤ d ∧ ∃ tv av, Blk w d #[tv, av] 81 ∧ w.ownsRow base 35 256 tv ls.length (rowsC ls) ∧ w.ownsRow base 4 1 av ls.length (acC q ls.length)
/-- what Compile answers -/
inductive Cmp (s : ByteArray) (base : Nat) (w : World) : Ending → Prop
  | bad {pl : Nat} (h : Pars s none pl) : Cmp s base w (.returned (.tuple #[.pointer none, .int .i64 110, .int .i64 ((pl : Nat) : Int)]))
  | many {t : Rx} {n : Nat} {q : List St} {ls : List (List Int)} (h : Pars s (some t) 0) (h1 : cmpT t n = some (q, ls)) (hl : ls.length = n) (h2 : cmpT t (n + 1) = none) : Cmp s base w (.returned (.tuple #[.pointer none, .int .i64 111, .int .i64 0]))
  | ok {t : Rx} {d : Nat} {q : List St} {ls : List (List Int)} (h : Pars s (some t) 0) (hn : neT t) (h1 : cmpT t ls.length = some (q, ls)) (hl : q.length = ls.length) (hd : Dfa base w d q ls) : Cmp s base w (.returned (.tuple #[.pointer (some ⟨d, 0, none⟩), .int .i64 0, .int .i64 0]))
theorem tr_ne3 {P : Nat → Prop} {w : World} (t : Rx) : (∀ vs, RowT P w vs t → neT t) ∧ (∀ vs, ForkT P w vs t → neT t) ∧ (∀ v, Tr P w v t → neT t) := by
  have tail : ∀ t : Rx, (∀ vs, RowT P w vs t → neT t) → (∀ vs, ForkT P w vs t → neT t) → (∀ N, t = .leaf N → N ≠ 0 ∧ N < 2 ^ 256 → neT t) → (∀ x r a b, t = .loop r a b → Tr P w x r → neT t) → ∀ v, Tr P w v t → neT t := by
    intro t h1 h2 h3 h4 v h
    cases h with
    | leaf N ha hb => exact h3 N rfl ⟨hb, ha⟩
    | row hn hr h => exact h1 _ h
    | fork hn hr h => exact h2 _ h
    | loop h => exact h4 _ _ _ _ rfl h
  induction t with
  | leaf n => exact ⟨fun _ h => (nomatch h), fun _ h => (nomatch h), tail _ (fun _ h => (nomatch h)) (fun _ h => (nomatch h)) (fun N e h => by cases e; exact h) (fun _ _ _ _ e => by cases e)⟩
  | eps => exact ⟨fun _ _ => trivial, fun _ _ => trivial, fun _ _ => trivial⟩
  | no => exact ⟨fun _ _ => trivial, fun _ _ => trivial, fun _ _ => trivial⟩
  | seq a b iha ihb =>
    have h1 : ∀ vs, RowT P w vs (.seq a b) → neT (.seq a b) := fun _ h => by
      cases h with
      | snoc h h2 => exact ⟨iha.1 _ h, ihb.2.2 _ h2⟩
    exact ⟨h1, fun _ h => (nomatch h), tail _ h1 (fun _ h => (nomatch h)) (fun _ e => by cases e) (fun _ _ _ _ e => by cases e)⟩
  | alt a b iha ihb =>
    have h1 : ∀ vs, ForkT P w vs (.alt a b) → neT (.alt a b) := fun _ h => by
      cases h with
      | snoc h h2 => exact ⟨iha.2.1 _ h, ihb.2.2 _ h2⟩
    exact ⟨fun _ h => (nomatch h), h1, tail _ (fun _ h => (nomatch h)) h1 (fun _ e => by cases e) (fun _ _ _ _ e => by cases e)⟩
  | loop a x y iha =>
    exact ⟨fun _ h => (nomatch h), fun _ h => (nomatch h), tail _ (fun _ h => (nomatch h)) (fun _ h => (nomatch h)) (fun _ e => by cases e) (fun v r c d e h => by
      cases e
      exact iha.2.2 _ h)⟩
theorem tr_ne {P : Nat → Prop} {w : World} {v : Value} {t : Rx} (h : Tr P w v t) : neT t := (tr_ne3 t).2.2 v h
theorem zero35 : (Tryd.prog.info? 35).map (fun i => (i.zero, i.size)) = some (some (.agg (Array.replicate 256 (.int .i64 0))), 256) := by kernel_rfl
theorem info35 : (Tryd.prog.info? 35).map (fun i => (i.zero, i.size, i.bytes)) = some (some (.agg (Array.replicate 256 (.int .i64 0))), 256, 2048) := by kernel_rfl
theorem info77 : (Tryd.prog.info? 77).map (fun i => (i.zero, i.size, i.bytes)) = some (some (.agg #[.int .u64 0, .bool false]), 2, 16) := by kernel_rfl
theorem info4 : (Tryd.prog.info? 4).map (fun i => (i.zero, i.size, i.bytes)) = some (some (.bool false), 1, 1) := by kernel_rfl
theorem own_nil (w : World) (base : Nat) (e : TypeId) (size : Nat) : w.ownsRow base e size (.slice none 0 0) 0 [] := ⟨by simp, .inl ⟨rfl, rfl⟩⟩
theorem own_new (w : World) (cs : Array Value) (e : TypeId) (base size : Nat) (hb : base ≤ w.heap.size) (hs : cs.size = size) : (w.alloc (.cells cs e)).ownsRow base e size (.slice (some ⟨w.heap.size, 0, none⟩) 1 1) 1 cs.toList :=
  ⟨by simp [hs], .inr ⟨w.heap.size, 1, cs, rfl, hb, Blk.new w cs e, Nat.le_refl _, by decide, by simp [hs], by rw [Nat.one_mul, ← hs, List.take_of_length_le (by simp)]⟩⟩
theorem plInit {w : World} {X : Nat} (h : Blk w X #[.slice none 0 0, .slice none 0 0] 71) : Pl (X + 1) X (fun _ => False) w [] [] :=
  ⟨none, 0, none, 0, 0, rfl, rfl, h, own_nil _ _ _ _, own_nil _ _ _ _, fun z hz => by simp [Value.ownBlock] at hz, fun z hz => by simp [Value.ownBlock] at hz, fun f hf => by simp at hf⟩
set_option maxRecDepth 100000 in
set_option maxHeartbeats 8000000 in
/-- Compile -/
theorem compile_any (s : ByteArray) (w : World) (hT : Tab w) :
    Calls Tryd.prog 10 #[.string s] w fun e w' => Below w.heap.size w w' ∧ Cmp s w.heap.size w' e := by
  have hw0 : 0 < w.heap.size := World.block_lt_of_cell? w _ (hT 0 (by decide))
  go_enter Tryd.func10, Tryd.ntmps10
  go_wp2_with fail
  refine (parse_any s w hT).mono ?_
  rintro e w1 ⟨hb1, r, pl, hP, hm⟩
  cases r with
  | none =>
    simp only at hm
    subst hm
    go_wp2
    go_returns
    exact ⟨hb1, .bad hP⟩
  | some t =>
    obtain ⟨v, rfl, ht⟩ := hm
    obtain ⟨hs64, hG⟩ : s.size ≤ 64 ∧ Gr s (.ex 0) (.ok t s.size) ∧ pl = 0 := by cases hP with | ok h hg => exact ⟨h, hg, rfl⟩
    obtain ⟨hG, rfl⟩ := hG
    obtain ⟨ty, xv, rfl⟩ := ht.isIface
    have hlv := Gr_leaves hG _ _ rfl
    have hsz := Gr_sz hG _ _ rfl
    simp only [Ph.start, Ph.got, Ph.gz, Ph.ga] at hlv hsz
    have hX : Below w1.heap.size w1 (w1.alloc (.cells #[.slice none 0 0, .slice none 0 0] 71)) := by go_grown
    have qX := Blk.new w1 #[.slice none 0 0, .slice none 0 0] 71
    have hT1 := (hT.below hb1).below hX
    have hw1 := hb1.size
    have ht1 : Tr (fun b => b < w1.heap.size) (w1.alloc (.cells #[.slice none 0 0, .slice none 0 0] 71)) (.iface ty xv) t := ht.kp (.of_below (S := fun _ => False) hX) (fun _ _ _ e => e) (fun _ hb _ => hb)
    have hcall := read_any (w1.heap.size + 1) w1.heap.size (by omega) (by omega) _ t (Nat.le_refl _) (fun _ => False) _ [] [] _ ht1 (by simp) (plInit qX) (fun _ h => h.elim) (by simp; omega) hT1 (by omega)
    have HC := Lib.hid hcall
    clear hcall
    go_wp2_with fail
    refine HC.out.mono ?_
    rintro e w2 ⟨rfl, hp2, hk2⟩
    have hbits := rdF_bits t [] []
    have hlen := rdF_len t [] []
    have hfol := fol_of t
    have hne := tr_ne ht
    obtain ⟨⟨ee, ef, el⟩, rs, fs, hX2⟩ : ∃ a b c, rdF t [] [] = (a, b, c) := ⟨_, _, _, rfl⟩
    rw [hX2] at hp2 hbits hlen hfol ⊢
    simp only [List.length_nil, Nat.zero_add] at hbits hlen hfol
    have HF := Lib.hid (And.intro hfol hne)
    clear hfol hne
    have hef : ef < 18446744073709551616 := hbits.1.lt (by omega)
    obtain ⟨rA, rc, fA, fc, n0, h1, h2, h3, h4, h5, h6, h7, h8⟩ := hp2
    simp only at h1 h2 h3 h4 h5 h8
    have hX3 := h3.lt
    have b1 : Below w2.heap.size w2 (((w2.alloc (.cells (enC ⟨ee, ef, el⟩) 74)).alloc (.cells #[.int .u64 ((ef : Nat) : Int), .bool ee] 77)).alloc (.map #[] 0)) := by go_grown
    obtain ⟨w6, hrun, hown, hg⟩ := (World.ownsMap_made ((w2.alloc (.cells (enC ⟨ee, ef, el⟩) 74)).alloc (.cells #[.int .u64 ((ef : Nat) : Int), .bool ee] 77)) Tryd.prog 77 (plainElem (H := Nat) Tryd.prog 3)).update law77 Tryd.underlying79 (by decide) (keyOf_st (ef, ee) hef) (plainElem_int Tryd.underlying3 (a := 0) (by decide))
    simp only [World.size_alloc, stV] at hrun hown hg
    have hk6 : Kp (fun z => z = w2.heap.size + 1 + 1) w2 w6 := (Kp.of_below b1).trans ((Kp.of_grown hg).mono (fun z _ e => by injection e with e; exact e.symm))
    have hEN : enC ⟨ee, ef, el⟩ = #[.bool ee, .int .u64 ((ef : Nat) : Int), .int .u64 ((el : Nat) : Int)] := rfl
    have qE := ((Blk.new w2 (enC ⟨ee, ef, el⟩) 74).alloc (.cells #[.int .u64 ((ef : Nat) : Int), .bool ee] 77)).alloc (.map #[] 0)
    have qS := (Blk.new (w2.alloc (.cells (enC ⟨ee, ef, el⟩) 74)) #[.int .u64 ((ef : Nat) : Int), .bool ee] 77).alloc (.map #[] 0)
    have oS := (own_new (w2.alloc (.cells (enC ⟨ee, ef, el⟩) 74)) #[.int .u64 ((ef : Nat) : Int), .bool ee] 77 w.heap.size 2 (by have := hk2.size; simp at this ⊢; omega) rfl).alloc (.map #[] 0)
    simp only [World.size_alloc] at qS oS
    have y0 := qE.cell 0
    have y1 := qE.cell 1
    have u0 := qS.cell 0
    have u1 := qS.cell 1
    rw [hEN] at hrun y0 y1 u0 u1
    have hmm := @run_makeMap Tryd.prog
    unfold EnV
    go_upto_region 9 with fail
    have h2b := hk2.size
    simp only [World.size_alloc] at h2b
    have hk6s := hk6.size
    have b7 : Below w6.heap.size w6 (w6.alloc (.cells #[.slice none 0 0, .slice none 0 0] 81)) := by go_grown
    have qD := Blk.new w6 #[.slice none 0 0, .slice none 0 0] 81
    have hM : (fun z => z = w2.heap.size + 1 + 1) (w2.heap.size + 1 + 1) := rfl
    have hk67 : Kp (fun z => z = w2.heap.size + 1 + 1) w2 (w6.alloc (.cells #[.slice none 0 0, .slice none 0 0] 81)) := hk6.below b7
    have hgk : Kp (fun z => z = w2.heap.size + 1 + 1) (((w2.alloc (.cells (enC ⟨ee, ef, el⟩) 74)).alloc (.cells #[.int .u64 ((ef : Nat) : Int), .bool ee] 77)).alloc (.map #[] 0)) (w6.alloc (.cells #[.slice none 0 0, .slice none 0 0] 81)) := ((Kp.of_grown hg).mono (fun z _ e => by injection e with e; exact e.symm)).below b7
    have cm : Cm w.heap.size w1.heap.size w2.heap.size w6.heap.size (w2.heap.size + 1 + 1) rs fs ⟨ee, ef, el⟩ (.slice rA n0 rc) (.slice fA n0 fc) (.slice (some ⟨w2.heap.size + 1, 0, none⟩) 1 1) (.slice none 0 0) (.slice none 0 0) [(ef, ee)] [] 0 w (w6.alloc (.cells #[.slice none 0 0, .slice none 0 0] 81)) := by
      refine ⟨h3.kp hk67 (by omega), qE.kp hgk (by omega), qD, ?_, ?_, ?_, own_nil _ _ _ _, own_nil _ _ _ _, ?_, ?_, Nat.le_refl _, hw1, by omega, by omega, by omega, by simp; omega⟩
      · rw [h1]; exact ownKp (own_base h4 (by omega)) hk67 (fun z hz e => by have := (own_lt h4 z hz).2; omega)
      · rw [h1]; exact ownKp (own_base h5 (by omega)) hk67 (fun z hz e => by have := (own_lt h5 z hz).2; omega)
      · exact ownKp oS hgk (fun z hz e => by simp [Value.ownBlock] at hz; omega)
      · have hm := map_kp hown (Kp.of_below (S := fun _ => False) b7) (fun e => e)
        exact hm
      · refine (hb1.trans ?_)
        have k1 : Kp (fun z => w1.heap.size ≤ z) w1 (w6.alloc (.cells #[.slice none 0 0, .slice none 0 0] 81)) := ((Kp.of_below hX).step hk2 (fun k _ e => by rcases e with e | e; omega; exact e.2.elim)).step hk67 (fun k _ e => by omega)
        exact k1.toBelow hw1 (fun k hk e => by omega)
    have HN := Lib.hid (And.intro hX2 (And.intro h1 (And.intro h2 (And.intro h8 (And.intro hef hbits)))))
    have HLN := Lib.hid (And.intro hlen (And.intro hlv hP))
    have HT2 := Lib.hid hT
    clear h1 h2 h3 h4 h5 h6 h7 h8 hX2 hlen hbits hlv hsz hk2 hk6 hk67 hgk hg hrun hown qE qS oS y0 y1 u0 u1 hEN b1 b7 qD hM hX qX hT1 ht1 HC ht hG hP hT hb1 hs64
    generalize hW : w6.alloc (.cells #[.slice none 0 0, .slice none 0 0] 81) = W at *
    generalize hE : w2.heap.size = E at *
    generalize hD : w6.heap.size = D at *
    generalize hXX : w1.heap.size = X at *
    clear hW hE hD hXX hX3 h2b hk6s
    clear w6 w2 w1
    go_wp2
    go_loopw [10, 13] (fun sv nv wr => ∃ (n : Nat) (q : List St) (ls : List (List Int)) (tv av : Value), nv = .int .i64 ((n : Nat) : Int) ∧ cmpC rs fs el (ef, ee) n = some (q, ls) ∧ ls.length = n ∧ n ≤ q.length ∧
      Cm w.heap.size X E D (E + 1 + 1) rs fs ⟨ee, ef, el⟩ (.slice rA n0 rc) (.slice fA n0 fc) sv tv av q ls n w wr) (fun _ nv _ => 64 - (intOf nv).toNat)
    case atStart => exact ⟨0, _, _, _, _, rfl, rfl, rfl, Nat.zero_le _, cm⟩
    case round =>
      clear cm
      obtain ⟨n, q, ls, tv, av, rfl, hc, hln, hnq, cm⟩ := hrel
      have I := cmpI hc hln
      have h64 : ∀ s ∈ q, s.1 < 18446744073709551616 := cmpC_all (J := fun s => s.1 < 18446744073709551616) HN.out.2.2.2.2.1 (fun s b t _ ht => by
        unfold nxt at ht
        split at ht
        · cases ht; exact gatN_lt HN.out.2.2.2.1
        · cases ht) hc
      have hbt : ∀ s ∈ q, ∀ j, s.1.testBit j = true → j < rs.length := cmpC_all (J := fun s => ∀ j, s.1.testBit j = true → j < rs.length) (fun j hj => by have h1 := (HN.out.2.2.2.2.2.1 j hj).2; have h2 := HLN.out.1.1; omega) (fun s b t _ ht j hj => by
        unfold nxt at ht
        split at ht
        · cases ht
          obtain ⟨p, _, _, h3⟩ := gatN_bit.1 hj
          exact HF.out.1 p j h3
        · cases ht) hc
      have hq0 : 0 < q.length := by have := lt_of_some I.first; omega
      obtain ⟨sg, scp, rfl⟩ := own_some cm.os_ hq0
      have hle := I.le
      by_cases hi : n = q.length
      · have hni : ¬ ((n : Nat) : Int) < ((q.length : Nat) : Int) := by omega
        have P := Lib.hid (And.intro hc (And.intro hln (And.intro cm hi)))
        clear hc hln cm hi I h64 hbt
        go_wp2
        go_returns
        obtain ⟨hc, hln, cm, hi⟩ := P.out
        exact ⟨cm.kp, .ok HLN.out.2.2 (q := q) (ls := ls) HF.out.2 (by unfold cmpT; rw [HN.out.1, hln]; exact hc) (by rw [hln]; exact hi.symm) ⟨cm.hd, tv, av, cm.bd, by rw [hln]; exact cm.ot, by rw [hln]; exact cm.oa⟩⟩
      · have hni : ((n : Nat) : Int) < ((q.length : Nat) : Int) := by omega
        have hv35 : ∀ w : World, (zeroValue 35).run Tryd.prog w = .ok (.agg (arrC [])) w := fun w => by rw [arrC_nil]; exact (zero_of_info zero35).1 w
        have qT := Blk.new wr (arrC []) 35
        have cmT := cm.below (show Below wr.heap.size wr (wr.alloc (.cells (arrC []) 35)) by go_grown)
        have hnT : tv.ownBlock ≠ some wr.heap.size := fun e => by have := (own_lt cm.ot _ e).2; omega
        go_upto_region 13 with fail
        generalize hW1 : wr.alloc (.cells (arrC []) 35) = W1 at *
        have hTb : w.heap.size ≤ wr.heap.size := cm.le
        generalize hT1 : wr.heap.size = T at *
        clear hW1 hT1 hv35
        obtain ⟨s0, hs0⟩ : ∃ s0 : St, q[n]? = some s0 := ⟨_, List.getElem?_eq_getElem (by omega)⟩
        have P := Lib.hid (And.intro hc (And.intro hln (And.intro I (And.intro h64 hs0))))
        have hs64 := h64 s0 (List.mem_of_getElem? hs0)
        have hsbt := hbt s0 (List.mem_of_getElem? hs0)
        clear hc hln cm I h64 hbt
        go_wp2
        go_loopw [10, 56] (fun sv bv wx => ∃ (b : Nat) (q' : List St) (tt : List Int), bv = .int .i64 ((b : Nat) : Int) ∧ b ≤ 256 ∧ rowC rs fs el s0.1 b q = some (q', tt) ∧
          Cm w.heap.size X E D (E + 1 + 1) rs fs ⟨ee, ef, el⟩ (.slice rA n0 rc) (.slice fA n0 fc) sv tv av q' ls n w wx ∧ Blk wx T (arrC tt) 35) (fun _ bv _ => 256 - (intOf bv).toNat)
        case atStart => exact ⟨0, q, [], rfl, by omega, rfl, cmT, qT⟩
        case round =>
          clear cmT qT
          obtain ⟨b, q', tt, rfl, hb, hr, cm2, qT2⟩ := hrel
          obtain ⟨hpre, htl, hpl, hpn⟩ := rowC_pre hr
          have hq0' : 0 < q'.length := Nat.lt_of_lt_of_le hq0 hpre.length_le
          obtain ⟨sg2, scp2, rfl⟩ := own_some cm2.os_ hq0'
          by_cases hb2 : b = 256
          · subst hb2
            have hs0' : q'[n]? = some s0 := by
              obtain ⟨r, rfl⟩ := hpre
              rw [List.getElem?_append_left (lt_of_some P.out.2.2.2.2)]
              exact P.out.2.2.2.2
            have hnl : ((n : Nat) : Int) < ((q'.length : Nat) : Int) := by have := lt_of_some hs0'; omega
            have hn1 : n + 1 ≤ q'.length := lt_of_some hs0'
            have hq64 : q'.length ≤ 64 := hpl P.out.2.2.1.le
            have HS0 := hs0'
            have HSE := (sC_get hs0').2
            have HSZ : (arrC tt).size = 256 := arrC_size (by omega)
            have HZS : (Value.agg (Array.replicate 256 (.int .i64 0))).cells.size = 256 := by simp only [Value.cells, Array.size_replicate]
            have HL1 : (n + 1) * 2048 ≤ 140737488355328 := by omega
            have HL2 : (n + 1) * 1 ≤ 140737488355328 := by omega
            have HC := Lib.hid (And.intro (show cmpC rs fs el (ef, ee) (n + 1) = some (q', ls ++ [tt]) by simp only [cmpC, P.out.1, P.out.2.2.2.2, hr]) (show (ls ++ [tt]).length = n + 1 by rw [List.length_append, P.out.2.1]; rfl))
            have s1 := cm2.cx.drew
            have t1 : Blk wr.drew T (arrC tt) 35 := qT2
            clear cm2 qT2 hr hs0'
            go_upto_region 37 with fail
            refine wp_region_S 22 (SeX D T tv av (arrC tt) sg2 (n * 2 + 1) s0.2) (by kernel_rfl) ?_
            have hS : SeX D T tv av (arrC tt) sg2 (n * 2 + 1) s0.2 wr.drew := ⟨s1.bd, t1, own_cell s1.os_ HSE⟩
            have eS : (⟨sg2, 0, none⟩ : Addr).add (n * 2) = ⟨sg2, n * 2, none⟩ := by simpa using addr_add sg2 0 (n * 2)
            generalize wr.drew = d1 at *
            refine wpS_take0 (i := 0) (v := ?_) rfl (by kernel_rfl) (by kernel_rfl) (by kernel_rfl) (by rfl) (fun _ _ _ h => h) (by rfl) (fun w' => ?_) (by assumption) ?_
            rotate_left
            · (go_simp; try with_reducible rfl)
            (try simp only [Act.put, List.setIfInBounds_toArray, List.set_cons_zero, List.set_cons_succ])
            refine wpS_take0 (i := 1) (v := ?_) rfl (by kernel_rfl) (by kernel_rfl) (by kernel_rfl) (by rfl) (fun _ _ _ h => h) (by rfl) (fun w' => ?_) (by assumption) ?_
            rotate_left
            · (go_simp; try with_reducible rfl)
            (try simp only [Act.put, List.setIfInBounds_toArray, List.set_cons_zero, List.set_cons_succ])
            refine wpS_take0 (i := 2) (v := ?_) rfl (by kernel_rfl) (by kernel_rfl) (by kernel_rfl) (by rfl) (fun _ _ _ h => h) (by rfl) (fun w' => ?_) (by assumption) ?_
            rotate_left
            · (go_simp; try with_reducible rfl)
            (try simp only [Act.put, List.setIfInBounds_toArray, List.set_cons_zero, List.set_cons_succ])
            refine wpS_take0 (i := 3) (v := ?_) rfl (by kernel_rfl) (by kernel_rfl) (by kernel_rfl) (by rfl) (fun _ _ _ h => h) (by rfl) (fun w' => ?_) (by assumption) ?_
            rotate_left
            · (go_simp; try with_reducible rfl)
            (try simp only [Act.put, List.setIfInBounds_toArray, List.set_cons_zero, List.set_cons_succ])
            refine wpS_take0 (i := 4) (v := ?_) rfl (by kernel_rfl) (by kernel_rfl) (by kernel_rfl) (by rfl) (fun _ _ _ h => h) (by rfl) (fun w' => ?_) (by assumption) ?_
            rotate_left
            · (go_simp; try with_reducible rfl)
            (try simp only [Act.put, List.setIfInBounds_toArray, List.set_cons_zero, List.set_cons_succ])
            refine wpS_take0 (i := 9) (v := ?_) rfl (by kernel_rfl) (by kernel_rfl) (by kernel_rfl) (by rfl) (fun _ _ _ h => h) (by rfl) (fun w' => ?_) (by assumption) ?_
            rotate_left
            · (go_simp; try with_reducible rfl)
            (try simp only [Act.put, List.setIfInBounds_toArray, List.set_cons_zero, List.set_cons_succ])
            refine wpS_take0 (i := 10) (v := ?_) rfl (by kernel_rfl) (by kernel_rfl) (by kernel_rfl) (by rfl) (fun _ _ _ h => h) (by rfl) (fun w' => ?_) (by assumption) ?_
            rotate_left
            · (go_simp; try with_reducible rfl)
            (try simp only [Act.put, List.setIfInBounds_toArray, List.set_cons_zero, List.set_cons_succ])
            refine wpS_take0 (i := 11) (v := ?_) rfl (by kernel_rfl) (by kernel_rfl) (by kernel_rfl) (by rfl) (fun _ _ _ h => h) (by rfl) (fun w' => ?_) (by assumption) ?_
            rotate_left
            · (go_simp; try with_reducible rfl)
            (try simp only [Act.put, List.setIfInBounds_toArray, List.set_cons_zero, List.set_cons_succ])
            refine wpS_take0 (i := 13) (v := ?_) rfl (by kernel_rfl) (by kernel_rfl) (by kernel_rfl) (by rfl) (fun _ _ _ h => h) (by rfl) (fun w' => ?_) (by assumption) ?_
            rotate_left
            · (go_simp; try with_reducible rfl)
            (try simp only [Act.put, List.setIfInBounds_toArray, List.set_cons_zero, List.set_cons_succ])
            refine wpS_take0 (i := 14) (v := ?_) rfl (by kernel_rfl) (by kernel_rfl) (by kernel_rfl) (by rfl) (fun _ _ _ h => h) (by rfl) (fun w' => ?_) (by assumption) ?_
            rotate_left
            · (go_simp; try with_reducible rfl)
            (try simp only [Act.put, List.setIfInBounds_toArray, List.set_cons_zero, List.set_cons_succ])
            refine wpS_take0 (i := 15) (v := ?_) rfl (by kernel_rfl) (by kernel_rfl) (by kernel_rfl) (by rfl) (fun _ _ _ h => h) (by rfl) (fun w' => ?_) (by assumption) ?_
            rotate_left
            · (go_simp; try with_reducible rfl)
            (try simp only [Act.put, List.setIfInBounds_toArray, List.set_cons_zero, List.set_cons_succ])
            refine wpS_take0 (i := 16) (v := ?_) rfl (by kernel_rfl) (by kernel_rfl) (by kernel_rfl) (by rfl) (fun _ _ _ h => h) (by rfl) (fun w' => ?_) (by assumption) ?_
            rotate_left
            · (go_simp; try with_reducible rfl)
            (try simp only [Act.put, List.setIfInBounds_toArray, List.set_cons_zero, List.set_cons_succ])
            refine wpS_take (i := 5) (v := ?_) rfl (by kernel_rfl) (by kernel_rfl) (by kernel_rfl) (by kernel_rfl) (by kernel_rfl) (fun _ _ _ h => h) (by rfl) (fun w' hSw => ?_) (by assumption) ?_
            rotate_left
            · have y := hSw.1.cell 0
              (go_simp; try with_reducible rfl)
            (try simp only [Act.put, List.setIfInBounds_toArray, List.set_cons_zero, List.set_cons_succ])
            refine wpS_take (i := 12) (v := ?_) rfl (by kernel_rfl) (by kernel_rfl) (by kernel_rfl) (by kernel_rfl) (by kernel_rfl) (fun _ _ _ h => h) (by rfl) (fun w' hSw => ?_) (by assumption) ?_
            rotate_left
            · have y := hSw.1.cell 1
              (go_simp; try with_reducible rfl)
            (try simp only [Act.put, List.setIfInBounds_toArray, List.set_cons_zero, List.set_cons_succ])
            refine wpS_take (i := 17) (v := ?_) rfl (by kernel_rfl) (by kernel_rfl) (by kernel_rfl) (by kernel_rfl) (by kernel_rfl) (fun _ _ _ h => h) (by rfl) (fun w' hSw => ?_) (by assumption) ?_
            rotate_left
            · have y := hSw.2.2
              (go_simp; try with_reducible rfl)
            (try simp only [Act.put, List.setIfInBounds_toArray, List.set_cons_zero, List.set_cons_succ])
            refine wpS_take (i := 6) (v := .agg (arrC tt)) rfl (by kernel_rfl) (by kernel_rfl) (by kernel_rfl) (by kernel_rfl) (by kernel_rfl) (fun _ _ _ h => h) (by rfl) (fun w' hSw => exec_load35 _ rfl rfl hSw.2.1 HSZ) (by assumption) ?_
            (try simp only [Act.put, List.setIfInBounds_toArray, List.set_cons_zero, List.set_cons_succ])
            refine wpS_two (i := 7) (j := 18) (by kernel_rfl) ?_ ?_
            · have s2 := s1.alloc (arrC tt) 35
              have t2 := t1.alloc (.cells (arrC tt) 35)
              have b7 := Blk.new d1 (arrC tt) 35
              refine Nxt.step rfl (fun K' hK => ?_)
              rw [if_pos (by rfl)]
              refine wp_bs27 _ rfl (arrC tt) rfl HSZ ?_
              refine hK.out _ _ (.inr ⟨s2.bd, t2, own_cell s2.os_ HSE⟩) ?_
              clear hK K'
              (try simp only [Act.put, List.setIfInBounds_toArray, List.set_cons_zero, List.set_cons_succ])
              generalize d1.alloc (.cells (arrC tt) 35) = d2 at *
              generalize d1.heap.size = H7 at *
              clear s1 t1
              refine wpS_two (i := 8) (j := 18) (by kernel_rfl) ?_ ?_
              · refine Nxt.step rfl (fun K' hK => ?_)
                refine appStep (w0 := d2) w.heap.size rfl _ _ 27 35 (.agg (Array.replicate 256 (.int .i64 0))) 256 2048 rfl Tryd.underlying27 info35 HZS (by decide) (by decide) tv n (rowsC ls) H7 (arrC tt) rfl rfl HSZ (arrC_one tt) b7 s2.ot (Below.refl _ _) s2.le HL1 ?_
                intro g8 cap8 d3 os8 hb8 hg8 hat8
                have s3 := s2.appT os8 hg8
                have t3 := t2.kept hg8 (fun e => hnT e.symm)
                refine hK.out _ _ (.inr ⟨s3.bd, t3, own_cell s3.os_ HSE⟩) ?_
                clear hK K' hb8 hat8 hg8 os8 s2 t2
                (try simp only [Act.put, List.setIfInBounds_toArray, List.set_cons_zero, List.set_cons_succ])
                refine wpS_one (i := 18) (by kernel_rfl) ?_
                have s4 := s3.alloc #[.bool s0.2] 4
                have t4 := t3.alloc (.cells #[.bool s0.2] 4)
                have b18 := Blk.new d3 #[.bool s0.2] 4
                have b7 := b7.alloc (.cells #[.bool s0.2] 4)
                refine Nxt.step rfl (fun K' hK => ?_)
                go_simp
                refine hK.out _ _ (.inr ⟨s4.bd, t4, own_cell s4.os_ HSE⟩) ?_
                clear hK K'
                (try simp only [Act.put, List.setIfInBounds_toArray, List.set_cons_zero, List.set_cons_succ])
                generalize d3.alloc (.cells #[.bool s0.2] 4) = d4 at *
                generalize d3.heap.size = H18 at *
                clear s3 t3
                refine wpS_one (i := 19) (by kernel_rfl) ?_
                refine Nxt.step rfl (fun K' hK => ?_)
                refine appStep (w0 := d4) w.heap.size rfl _ _ 28 4 (.bool false) 1 1 rfl Tryd.underlying28 info4 rfl (by decide) (by decide) av n (acC q' n) H18 #[.bool s0.2] rfl rfl rfl (by simp [Value.oneCell']) b18 s4.oa (Below.refl _ _) s4.le HL2 ?_
                intro g19 cap19 d5 os19 hb19 hg19 hat19
                have s5 := s4.appA os19 hg19
                have t5 := t4.kept hg19 (t4.not_row (by decide) s4.oa)
                refine hK.out _ _ (.inr ⟨s5.bd, t5, own_cell s5.os_ HSE⟩) ?_
                clear hK K' hb19 hat19 hg19 os19 s4 t4
                (try simp only [Act.put, List.setIfInBounds_toArray, List.set_cons_zero, List.set_cons_succ])
                refine wpS_one (i := 20) (by kernel_rfl) ?_
                refine Nxt.step rfl (fun K' hK => ?_)
                go_simp
                refine hK.out _ _ (.inr ⟨s5.bd, t5, own_cell s5.os_ HSE⟩) ?_
                clear hK K'
                (try simp only [Act.put, List.setIfInBounds_toArray, List.set_cons_zero, List.set_cons_succ])
                refine wpS_one (i := 21) (by kernel_rfl) ?_
                refine Nxt.step rfl (fun K' hK => ?_)
                go_simp
                refine hK.out _ _ (.inr ⟨s5.bd, t5, own_cell s5.os_ HSE⟩) ?_
                clear hK K'
                (try simp only [Act.put, List.setIfInBounds_toArray, List.set_cons_zero, List.set_cons_succ])
                refine wpS_one (i := 22) (by kernel_rfl) ?_
                have x0 := s5.bd.cell 0
                have f0 := s5.bd.frozen 0
                have x1 := s5.bd.cell 1
                have sA := s5.setD 0 (.slice (some ⟨g8, 0, none⟩) (n + 1) cap8)
                refine Nxt.step rfl (fun K' hK => ?_)
                go_simp
                refine hK.out _ _ (.inl (by kernel_rfl)) ?_
                clear hK K' x0 f0 x1
                (try simp only [Act.put, List.setIfInBounds_toArray, List.set_cons_zero, List.set_cons_succ])
                generalize d5.setCell ⟨D, 0, none⟩ (.slice (some ⟨g8, 0, none⟩) (n + 1) cap8) = dA at *
                refine wpS_one (i := 23) (by kernel_rfl) ?_
                refine Nxt.step rfl (fun K' hK => ?_)
                go_simp
                refine hK.out _ _ (.inl (by kernel_rfl)) ?_
                clear hK K'
                (try simp only [Act.put, List.setIfInBounds_toArray, List.set_cons_zero, List.set_cons_succ])
                refine wpS_one (i := 24) (by kernel_rfl) ?_
                refine Nxt.step rfl (fun K' hK => ?_)
                go_simp
                refine hK.out _ _ (.inl (by kernel_rfl)) ?_
                clear hK K'
                (try simp only [Act.put, List.setIfInBounds_toArray, List.set_cons_zero, List.set_cons_succ])
                refine wpS_one (i := 25) (by kernel_rfl) ?_
                have x1 := sA.bd.cell 1
                have f1 := sA.bd.frozen 1
                have sB := sA.setD 1 (.slice (some ⟨g19, 0, none⟩) (n + 1) cap19)
                refine Nxt.step rfl (fun K' hK => ?_)
                go_simp
                refine hK.out _ _ (.inl (by kernel_rfl)) ?_
                clear hK K' x1 f1
                (try simp only [Act.put, List.setIfInBounds_toArray, List.set_cons_zero, List.set_cons_succ])
                generalize dA.setCell ⟨D, 1, none⟩ (.slice (some ⟨g19, 0, none⟩) (n + 1) cap19) = dB at *
                refine wpS_done (by kernel_rfl) ?_ _
                have sE := Lib.hid (sB.fin rfl HS0)
                clear sB sA s5 t5 hS
                go_wp2
                go_roundw
                case rel => exact ⟨n + 1, q', ls ++ [tt], _, _, rfl, HC.out.1, HC.out.2, hn1, sE.out⟩
                case measure => simp [intOf]; omega
              · have s3 := s2.alloc #[.bool s0.2] 4
                have t3 := t2.alloc (.cells #[.bool s0.2] 4)
                have b18 := Blk.new d2 #[.bool s0.2] 4
                have b7 := b7.alloc (.cells #[.bool s0.2] 4)
                refine Nxt.step rfl (fun K' hK => ?_)
                go_simp
                refine hK.out _ _ (.inr ⟨s3.bd, t3, own_cell s3.os_ HSE⟩) ?_
                clear hK K'
                (try simp only [Act.put, List.setIfInBounds_toArray, List.set_cons_zero, List.set_cons_succ])
                generalize d2.alloc (.cells #[.bool s0.2] 4) = d3 at *
                generalize d2.heap.size = H18 at *
                clear s2 t2
                refine wpS_one (i := 8) (by kernel_rfl) ?_
                refine Nxt.step rfl (fun K' hK => ?_)
                refine appStep (w0 := d3) w.heap.size rfl _ _ 27 35 (.agg (Array.replicate 256 (.int .i64 0))) 256 2048 rfl Tryd.underlying27 info35 HZS (by decide) (by decide) tv n (rowsC ls) H7 (arrC tt) rfl rfl HSZ (arrC_one tt) b7 s3.ot (Below.refl _ _) s3.le HL1 ?_
                intro g8 cap8 d4 os8 hb8 hg8 hat8
                have s4 := s3.appT os8 hg8
                have t4 := t3.kept hg8 (fun e => hnT e.symm)
                have b18 := b18.kept hg8 (b18.not_row (by decide) s3.ot)
                refine hK.out _ _ (.inr ⟨s4.bd, t4, own_cell s4.os_ HSE⟩) ?_
                clear hK K' hb8 hat8 hg8 os8 s3 t3
                (try simp only [Act.put, List.setIfInBounds_toArray, List.set_cons_zero, List.set_cons_succ])
                refine wpS_one (i := 19) (by kernel_rfl) ?_
                refine Nxt.step rfl (fun K' hK => ?_)
                refine appStep (w0 := d4) w.heap.size rfl _ _ 28 4 (.bool false) 1 1 rfl Tryd.underlying28 info4 rfl (by decide) (by decide) av n (acC q' n) H18 #[.bool s0.2] rfl rfl rfl (by simp [Value.oneCell']) b18 s4.oa (Below.refl _ _) s4.le HL2 ?_
                intro g19 cap19 d5 os19 hb19 hg19 hat19
                have s5 := s4.appA os19 hg19
                have t5 := t4.kept hg19 (t4.not_row (by decide) s4.oa)
                refine hK.out _ _ (.inr ⟨s5.bd, t5, own_cell s5.os_ HSE⟩) ?_
                clear hK K' hb19 hat19 hg19 os19 s4 t4
                (try simp only [Act.put, List.setIfInBounds_toArray, List.set_cons_zero, List.set_cons_succ])
                refine wpS_one (i := 20) (by kernel_rfl) ?_
                refine Nxt.step rfl (fun K' hK => ?_)
                go_simp
                refine hK.out _ _ (.inr ⟨s5.bd, t5, own_cell s5.os_ HSE⟩) ?_
                clear hK K'
                (try simp only [Act.put, List.setIfInBounds_toArray, List.set_cons_zero, List.set_cons_succ])
                refine wpS_one (i := 21) (by kernel_rfl) ?_
                refine Nxt.step rfl (fun K' hK => ?_)
                go_simp
                refine hK.out _ _ (.inr ⟨s5.bd, t5, own_cell s5.os_ HSE⟩) ?_
                clear hK K'
                (try simp only [Act.put, List.setIfInBounds_toArray, List.set_cons_zero, List.set_cons_succ])
                refine wpS_one (i := 22) (by kernel_rfl) ?_
                have x0 := s5.bd.cell 0
                have f0 := s5.bd.frozen 0
                have x1 := s5.bd.cell 1
                have sA := s5.setD 0 (.slice (some ⟨g8, 0, none⟩) (n + 1) cap8)
                refine Nxt.step rfl (fun K' hK => ?_)
                go_simp
                refine hK.out _ _ (.inl (by kernel_rfl)) ?_
                clear hK K' x0 f0 x1
                (try simp only [Act.put, List.setIfInBounds_toArray, List.set_cons_zero, List.set_cons_succ])
                generalize d5.setCell ⟨D, 0, none⟩ (.slice (some ⟨g8, 0, none⟩) (n + 1) cap8) = dA at *
                refine wpS_one (i := 23) (by kernel_rfl) ?_
                refine Nxt.step rfl (fun K' hK => ?_)
                go_simp
                refine hK.out _ _ (.inl (by kernel_rfl)) ?_
                clear hK K'
                (try simp only [Act.put, List.setIfInBounds_toArray, List.set_cons_zero, List.set_cons_succ])
                refine wpS_one (i := 24) (by kernel_rfl) ?_
                refine Nxt.step rfl (fun K' hK => ?_)
                go_simp
                refine hK.out _ _ (.inl (by kernel_rfl)) ?_
                clear hK K'
                (try simp only [Act.put, List.setIfInBounds_toArray, List.set_cons_zero, List.set_cons_succ])
                refine wpS_one (i := 25) (by kernel_rfl) ?_
                have x1 := sA.bd.cell 1
                have f1 := sA.bd.frozen 1
                have sB := sA.setD 1 (.slice (some ⟨g19, 0, none⟩) (n + 1) cap19)
                refine Nxt.step rfl (fun K' hK => ?_)
                go_simp
                refine hK.out _ _ (.inl (by kernel_rfl)) ?_
                clear hK K' x1 f1
                (try simp only [Act.put, List.setIfInBounds_toArray, List.set_cons_zero, List.set_cons_succ])
                generalize dA.setCell ⟨D, 1, none⟩ (.slice (some ⟨g19, 0, none⟩) (n + 1) cap19) = dB at *
                refine wpS_done (by kernel_rfl) ?_ _
                have sE := Lib.hid (sB.fin rfl HS0)
                clear sB sA s5 t5 hS
                go_wp2
                go_roundw
                case rel => exact ⟨n + 1, q', ls ++ [tt], _, _, rfl, HC.out.1, HC.out.2, hn1, sE.out⟩
                case measure => simp [intOf]; omega
            · have s2 := s1.alloc #[.bool s0.2] 4
              have t2 := t1.alloc (.cells #[.bool s0.2] 4)
              have b18 := Blk.new d1 #[.bool s0.2] 4
              refine Nxt.step rfl (fun K' hK => ?_)
              go_simp
              refine hK.out _ _ (.inr ⟨s2.bd, t2, own_cell s2.os_ HSE⟩) ?_
              clear hK K'
              (try simp only [Act.put, List.setIfInBounds_toArray, List.set_cons_zero, List.set_cons_succ])
              generalize d1.alloc (.cells #[.bool s0.2] 4) = d2 at *
              generalize d1.heap.size = H18 at *
              clear s1 t1
              refine wpS_one (i := 7) (by kernel_rfl) ?_
              have s3 := s2.alloc (arrC tt) 35
              have t3 := t2.alloc (.cells (arrC tt) 35)
              have b7 := Blk.new d2 (arrC tt) 35
              have b18 := b18.alloc (.cells (arrC tt) 35)
              refine Nxt.step rfl (fun K' hK => ?_)
              rw [if_pos (by rfl)]
              refine wp_bs27 _ rfl (arrC tt) rfl HSZ ?_
              refine hK.out _ _ (.inr ⟨s3.bd, t3, own_cell s3.os_ HSE⟩) ?_
              clear hK K'
              (try simp only [Act.put, List.setIfInBounds_toArray, List.set_cons_zero, List.set_cons_succ])
              generalize d2.alloc (.cells (arrC tt) 35) = d3 at *
              generalize d2.heap.size = H7 at *
              clear s2 t2
              refine wpS_one (i := 8) (by kernel_rfl) ?_
              refine Nxt.step rfl (fun K' hK => ?_)
              refine appStep (w0 := d3) w.heap.size rfl _ _ 27 35 (.agg (Array.replicate 256 (.int .i64 0))) 256 2048 rfl Tryd.underlying27 info35 HZS (by decide) (by decide) tv n (rowsC ls) H7 (arrC tt) rfl rfl HSZ (arrC_one tt) b7 s3.ot (Below.refl _ _) s3.le HL1 ?_
              intro g8 cap8 d4 os8 hb8 hg8 hat8
              have s4 := s3.appT os8 hg8
              have t4 := t3.kept hg8 (fun e => hnT e.symm)
              have b18 := b18.kept hg8 (b18.not_row (by decide) s3.ot)
              refine hK.out _ _ (.inr ⟨s4.bd, t4, own_cell s4.os_ HSE⟩) ?_
              clear hK K' hb8 hat8 hg8 os8 s3 t3
              (try simp only [Act.put, List.setIfInBounds_toArray, List.set_cons_zero, List.set_cons_succ])
              refine wpS_one (i := 19) (by kernel_rfl) ?_
              refine Nxt.step rfl (fun K' hK => ?_)
              refine appStep (w0 := d4) w.heap.size rfl _ _ 28 4 (.bool false) 1 1 rfl Tryd.underlying28 info4 rfl (by decide) (by decide) av n (acC q' n) H18 #[.bool s0.2] rfl rfl rfl (by simp [Value.oneCell']) b18 s4.oa (Below.refl _ _) s4.le HL2 ?_
              intro g19 cap19 d5 os19 hb19 hg19 hat19
              have s5 := s4.appA os19 hg19
              have t5 := t4.kept hg19 (t4.not_row (by decide) s4.oa)
              refine hK.out _ _ (.inr ⟨s5.bd, t5, own_cell s5.os_ HSE⟩) ?_
              clear hK K' hb19 hat19 hg19 os19 s4 t4
              (try simp only [Act.put, List.setIfInBounds_toArray, List.set_cons_zero, List.set_cons_succ])
              refine wpS_one (i := 20) (by kernel_rfl) ?_
              refine Nxt.step rfl (fun K' hK => ?_)
              go_simp
              refine hK.out _ _ (.inr ⟨s5.bd, t5, own_cell s5.os_ HSE⟩) ?_
              clear hK K'
              (try simp only [Act.put, List.setIfInBounds_toArray, List.set_cons_zero, List.set_cons_succ])
              refine wpS_one (i := 21) (by kernel_rfl) ?_
              refine Nxt.step rfl (fun K' hK => ?_)
              go_simp
              refine hK.out _ _ (.inr ⟨s5.bd, t5, own_cell s5.os_ HSE⟩) ?_
              clear hK K'
              (try simp only [Act.put, List.setIfInBounds_toArray, List.set_cons_zero, List.set_cons_succ])
              refine wpS_one (i := 22) (by kernel_rfl) ?_
              have x0 := s5.bd.cell 0
              have f0 := s5.bd.frozen 0
              have x1 := s5.bd.cell 1
              have sA := s5.setD 0 (.slice (some ⟨g8, 0, none⟩) (n + 1) cap8)
              refine Nxt.step rfl (fun K' hK => ?_)
              go_simp
              refine hK.out _ _ (.inl (by kernel_rfl)) ?_
              clear hK K' x0 f0 x1
              (try simp only [Act.put, List.setIfInBounds_toArray, List.set_cons_zero, List.set_cons_succ])
              generalize d5.setCell ⟨D, 0, none⟩ (.slice (some ⟨g8, 0, none⟩) (n + 1) cap8) = dA at *
              refine wpS_one (i := 23) (by kernel_rfl) ?_
              refine Nxt.step rfl (fun K' hK => ?_)
              go_simp
              refine hK.out _ _ (.inl (by kernel_rfl)) ?_
              clear hK K'
              (try simp only [Act.put, List.setIfInBounds_toArray, List.set_cons_zero, List.set_cons_succ])
              refine wpS_one (i := 24) (by kernel_rfl) ?_
              refine Nxt.step rfl (fun K' hK => ?_)
              go_simp
              refine hK.out _ _ (.inl (by kernel_rfl)) ?_
              clear hK K'
              (try simp only [Act.put, List.setIfInBounds_toArray, List.set_cons_zero, List.set_cons_succ])
              refine wpS_one (i := 25) (by kernel_rfl) ?_
              have x1 := sA.bd.cell 1
              have f1 := sA.bd.frozen 1
              have sB := sA.setD 1 (.slice (some ⟨g19, 0, none⟩) (n + 1) cap19)
              refine Nxt.step rfl (fun K' hK => ?_)
              go_simp
              refine hK.out _ _ (.inl (by kernel_rfl)) ?_
              clear hK K' x1 f1
              (try simp only [Act.put, List.setIfInBounds_toArray, List.set_cons_zero, List.set_cons_succ])
              generalize dA.setCell ⟨D, 1, none⟩ (.slice (some ⟨g19, 0, none⟩) (n + 1) cap19) = dB at *
              refine wpS_done (by kernel_rfl) ?_ _
              have sE := Lib.hid (sB.fin rfl HS0)
              clear sB sA s5 t5 hS
              go_wp2
              go_roundw
              case rel => exact ⟨n + 1, q', ls ++ [tt], _, _, rfl, HC.out.1, HC.out.2, hn1, sE.out⟩
              case measure => simp [intOf]; omega
          · have hbi : ((b : Nat) : Int) < 256 := by omega
            have yT : wr.cell? ⟨T, b, none⟩ = some (.int .i64 0) := by
              rw [qT2.cell, ← htl]
              exact arrC_at (by omega)
            have fT := qT2.frozen b
            have eT : (⟨T, 0, none⟩ : Addr).add b = ⟨T, b, none⟩ := by simpa using addr_add T 0 b
            have k3 : Kp (fun z => z = T) wr (wr.setCell ⟨T, b, none⟩ (.int .i64 (-1))) := (Kp.refl _ wr).set T b _ (fun _ => rfl)
            have cm3 := cm2.other qT2 (by decide) (fun e => qT2.not_row (by decide) cm2.os_ e.symm) hnT hTb k3
            have qT3 : Blk (wr.setCell ⟨T, b, none⟩ (.int .i64 (-1))) T (arrC (tt ++ [-1])) 35 := by
              have := qT2.set b (.int .i64 (-1))
              rw [← htl] at this ⊢
              rw [arrC_set (by omega)] at this
              exact this
            have hq64 := rowC_all (J := fun s => s.1 < 18446744073709551616) (fun b t ht => by
              unfold nxt at ht
              split at ht
              · cases ht; exact gatN_lt HN.out.2.2.2.1
              · cases ht) P.out.2.2.2.1 hr
            have Q64 := Lib.hid hq64
            clear hq64
            have Q2 := Lib.hid hr
            clear cm2 qT2 k3 hr
            go_upto_region 17 with fail
            generalize wr.setCell ⟨T, b, none⟩ (.int .i64 (-1)) = w3 at *
            clear yT fT eT
            have cm4 := cm3.below (show Below w3.heap.size w3 (w3.alloc (.cells #[.int .u64 0, .bool false] 77)) by go_grown)
            have qT4 := qT3.below (show Below w3.heap.size w3 (w3.alloc (.cells #[.int .u64 0, .bool false] 77)) by go_grown)
            have q4 := Blk.new w3 #[.int .u64 0, .bool false] 77
            have hns : (Value.slice (some ⟨sg2, 0, none⟩) q'.length scp2).ownBlock ≠ some w3.heap.size := fun e => by have := (own_lt cm3.os_ _ e).2; omega
            have hTw : T < w3.heap.size := qT3.lt
            have hsg := (own_lt cm3.os_ sg2 rfl).2
            have hs0' : q'[n]? = some s0 := by
              obtain ⟨r, rfl⟩ := hpre
              rw [List.getElem?_append_left (lt_of_some P.out.2.2.2.2)]
              exact P.out.2.2.2.2
            have hnl : ((n : Nat) : Int) < ((q'.length : Nat) : Int) := by have := lt_of_some hs0'; omega
            have yS : (w3.alloc (.cells #[.int .u64 0, .bool false] 77)).cell? ⟨sg2, n * 2, none⟩ = some (.int .u64 ((s0.1 : Nat) : Int)) := by
              obtain ⟨g, o, he, hy⟩ := (own_rdA cm4.os_).at (n * 2) (lt_of_some (sC_get hs0').1)
              injection he with he
              injection he with e1 e2
              subst e1 e2
              rw [Nat.zero_add] at hy
              rw [hy, ← List.getElem?_eq_getElem (lt_of_some (sC_get hs0').1)]
              exact (sC_get hs0').1
            have eS : (⟨sg2, 0, none⟩ : Addr).add (n * 2) = ⟨sg2, n * 2, none⟩ := by simpa using addr_add sg2 0 (n * 2)
            go_upto_region 20 with fail
            have hZT : T ≠ w3.heap.size := by omega
            have hZb : w.heap.size ≤ w3.heap.size := cm3.le
            have hntZ : tv.ownBlock ≠ some w3.heap.size := fun e => by have := (own_lt cm3.ot _ e).2; omega
            have C4 := Lib.hid (And.intro cm4 (And.intro qT4 (And.intro hns (And.intro hpn (And.intro hntZ q4)))))
            clear cm3 qT3 yS eS cm4 qT4 hns hpn hntZ
            generalize hW4 : w3.alloc (.cells #[.int .u64 0, .bool false] 77) = w4 at *
            generalize hZ : w3.heap.size = Z at *
            clear hW4 hZ w3
            go_loopw [17, 18] (fun sv mv wx => ∃ (m nx : Nat) (so en : Bool), sv = .bool so ∧ mv = .int .u64 ((m : Nat) : Int) ∧ m < 18446744073709551616 ∧ (∀ j, m.testBit j = true → j < rs.length) ∧ nx < 18446744073709551616 ∧
              (so || gatE rs (fun _ => true) m b rs.length) = gatE rs (fun _ => true) s0.1 b rs.length ∧ (nx ||| gatN rs fs m b rs.length) = gatN rs fs s0.1 b rs.length ∧ (en || gatE rs el.testBit m b rs.length) = gatE rs el.testBit s0.1 b rs.length ∧
              Blk wx Z #[.int .u64 ((nx : Nat) : Int), .bool en] 77 ∧ Kp (fun z => z = Z) w4 wx) (fun _ mv _ => (intOf mv).toNat)
            case atStart => exact ⟨s0.1, 0, false, false, rfl, rfl, hs64, hsbt, by decide, by simp, by simp, by simp, q4, Kp.refl _ _⟩
            case round =>
              clear q4
              obtain ⟨m, nx, so, en, rfl, rfl, hm64, hmb, hnx, hso, hnn, hen, qZ, hk⟩ := hrel
              have REL := Lib.hid (And.intro hso (And.intro hnn hen))
              clear hso hnn hen
              by_cases h0 : m = 0
              · subst h0
                have cm5 := C4.out.1.other C4.out.2.2.2.2.2 (by decide) C4.out.2.2.1 C4.out.2.2.2.2.1 hZb hk
                have qT5 := C4.out.2.1.kp hk hZT
                obtain ⟨hso, hnn, hen⟩ := REL.out
                rw [gatE_zero, Bool.or_false] at hso hen
                rw [gatN_zero, Nat.or_zero] at hnn
                have hr := Q2.out
                cases so with
                | false =>
                  have hnx2 : nxt rs fs el s0.1 b = none := by unfold nxt; rw [← hso]; rfl
                  have hr2 : rowC rs fs el s0.1 (b + 1) q = some (q', tt ++ [-1]) := by simp only [rowC, hr, hnx2]
                  have R2 := Lib.hid (And.intro hr2 (And.intro cm5 qT5))
                  clear hso hnn hen hr hr2 cm5 qT5 qZ hk
                  go_wp2
                  go_roundw
                  case rel => exact ⟨b + 1, q', tt ++ [-1], rfl, by omega, R2.out.1, R2.out.2.1, R2.out.2.2⟩
                  case measure => simp [intOf]; omega
                | true =>
                  have hnx2 : nxt rs fs el s0.1 b = some (nx, en) := by unfold nxt; rw [← hso, ← hnn, ← hen]; rfl
                  clear hso hnn hen
                  obtain ⟨v, ps, hlk, hv⟩ := cm5.om.look_ok law77 Tryd.underlying79 (zero3 wr) (plainElem_int Tryd.underlying3 (a := 0) (by decide)) (keyOf_st (nx, en) hnx)
                  obtain ⟨c, rfl, hcv, _⟩ := plainElem_int_inv Tryd.underlying3 hv
                  rw [numD_has Q64.out hnx] at hlk
                  simp only [stV] at hlk
                  have z0 : wr.cell? ⟨Z, 0, none⟩ = some (.int .u64 ((nx : Nat) : Int)) := qZ.cell 0
                  have z1 : wr.cell? ⟨Z, 1, none⟩ = some (.bool en) := qZ.cell 1
                  have eT : (⟨T, 0, none⟩ : Addr).add b = ⟨T, b, none⟩ := by simpa using addr_add T 0 b
                  have hsT : ∀ {wz : World}, Blk wz T (arrC (tt ++ [-1])) 35 → wz.cell? ⟨T, b, none⟩ = some (.int .i64 (-1)) ∧ ∀ y, Blk (wz.setCell ⟨T, b, none⟩ (.int .i64 y)) T (arrC (tt ++ [y])) 35 := fun hq => by
                    refine ⟨by rw [hq.cell, ← htl]; exact arrC_at2 _ _, fun y => ?_⟩
                    have h := hq.set b (.int .i64 y)
                    rw [← htl] at h ⊢
                    rw [arrC_set2] at h
                    exact h
                  by_cases hmem : (nx, en) ∈ q'
                  · rw [decide_eq_true hmem] at hlk
                    rw [numD_at Q64.out (C4.out.2.2.2.1 P.out.2.2.1.nodup) hmem] at hcv
                    have hcc : c = ((q'.idxOf (nx, en) : Nat) : Int) := by
                      have h := congrArg Prod.fst hcv
                      simp only at h
                      injection h with h
                      injection h with _ h
                      exact h.symm
                    have hr2 : rowC rs fs el s0.1 (b + 1) q = some (q', tt ++ [c]) := by simp only [rowC, hr, hnx2, if_pos hmem, hcc]
                    clear hcc hcv hv
                    obtain ⟨yT, qT6⟩ := hsT qT5
                    have fT := qT5.frozen b
                    have k6 : Kp (fun z => z = T) wr (wr.setCell ⟨T, b, none⟩ (.int .i64 c)) := (Kp.refl _ wr).set T b _ (fun _ => rfl)
                    have cm6 := cm5.other qT5 (by decide) (fun e => qT5.not_row (by decide) cm5.os_ e.symm) hnT hTb k6
                    have R2 := Lib.hid (And.intro hr2 (And.intro cm6 (qT6 c)))
                    clear hr hr2 cm5 cm6 qT5 qT6 qZ hk k6 hsT
                    go_wp2
                    go_roundw
                    case rel => exact ⟨b + 1, q', tt ++ [c], rfl, by omega, R2.out.1, R2.out.2.1, R2.out.2.2⟩
                    case measure => simp [intOf]; omega
                  · rw [decide_eq_false hmem] at hlk
                    by_cases hq6 : q'.length = 64
                    · have hq6i : (((q'.length : Nat) : Int) == 64) = true := by simp; omega
                      have hrn : rowC rs fs el s0.1 256 q = none := rowC_none (b := b + 1) (by omega) (by simp only [rowC, hr, hnx2, if_neg hmem, if_pos hq6])
                      have hcn : cmpC rs fs el (ef, ee) (n + 1) = none := by simp only [cmpC, P.out.1, P.out.2.2.2.2, hrn]
                      have R2 := Lib.hid (And.intro hcn cm5.kp)
                      clear hr hrn hcn cm5 qT5 qZ hk hsT hcv hv
                      go_wp2
                      go_returns
                      exact ⟨R2.out.2, .many HLN.out.2.2 (n := n) (q := q) (ls := ls) (by unfold cmpT; rw [HN.out.1]; exact P.out.1) P.out.2.1 (by unfold cmpT; rw [HN.out.1]; exact R2.out.1)⟩
                    · have hq6i : (((q'.length : Nat) : Int) == 64) = false := by simp; omega
                      have hq6l : q'.length < 64 := by have := hpl P.out.2.2.1.le; omega
                      obtain ⟨w6, hup, hown6, hg6⟩ := cm5.om.update law77 Tryd.underlying79 (by unfold maxLen; omega) (keyOf_st (nx, en) hnx) (plainElem_int Tryd.underlying3 (a := ((q'.length : Nat) : Int)) (WalkArith.wf_i64 (by omega)))
                      simp only [stV] at hup
                      have kM : Kp (fun z => z = E + 1 + 1) wr w6 := grown_map hg6
                      have qZ6 := qZ.kp kM (qZ.not_map cm5.om)
                      have b67 : Below w6.heap.size w6 (w6.alloc (.cells #[.int .u64 ((nx : Nat) : Int), .bool en] 77)) := by go_grown
                      have z06 : w6.cell? ⟨Z, 0, none⟩ = some (.int .u64 ((nx : Nat) : Int)) := qZ6.cell 0
                      have z16 : w6.cell? ⟨Z, 1, none⟩ = some (.bool en) := qZ6.cell 1
                      have q7 := Blk.new w6 #[.int .u64 ((nx : Nat) : Int), .bool en] 77
                      have o7 := own_below (ownKp cm5.os_ kM (fun z hz e => own_not_map cm5.os_ cm5.om (by rw [hz, e]))) b67
                      have hbw : w.heap.size ≤ (w6.alloc (.cells #[.int .u64 ((nx : Nat) : Int), .bool en] 77)).heap.size := Nat.le_trans cm5.le (Nat.le_trans kM.size b67.size)
                      have hr2 : rowC rs fs el s0.1 (b + 1) q = some (q' ++ [(nx, en)], tt ++ [((q'.length : Nat) : Int)]) := by simp only [rowC, hr, hnx2, if_neg hmem, if_neg hq6]
                      have R2 := Lib.hid (And.intro hr2 (And.intro cm5 (And.intro qT5 (And.intro hg6 (And.intro hown6 b67)))))
                      clear hr hr2 cm5 qT5 qZ hk hcv hv qZ6 hg6 hown6 kM b67
                      go_wp2_with (at_builtin; refine appL w.heap.size rfl _ _ 78 77 (.agg #[.int .u64 0, .bool false]) 2 16 rfl Tryd.underlying78 info77 rfl (by decide) (by decide) (.slice (some ⟨sg2, 0, none⟩) q'.length scp2) q'.length (sC q') w6.heap.size #[.int .u64 ((nx : Nat) : Int), .bool en] rfl rfl rfl (by simp [Value.oneCell']) q7 o7 hbw (by omega) ?_; intro g8 cap8 w8 os8 hg8 _; obtain ⟨hr2, cm5, qT5, hg6, hown6, b67⟩ := R2.out; have hnq2 : n ≤ q'.length := Nat.le_trans hnq hpre.length_le; have cm8 := cm5.snoc hown6 hg6 b67 os8 hg8 hnq2; have qT8 := Blk.snoc qT5 (by decide) cm5 hg6 b67 hg8; obtain ⟨yT, qT9⟩ := hsT qT8; have fT := qT8.frozen b; have k9 : Kp (fun z => z = T) w8 (w8.setCell ⟨T, b, none⟩ (.int .i64 ((q'.length : Nat) : Int))) := (Kp.refl _ w8).set T b _ (fun _ => rfl); have cm9 := cm8.other qT8 (by decide) (fun e => qT8.not_row (by decide) cm8.os_ e.symm) hnT hTb k9; have R3 := Lib.hid (And.intro hr2 (And.intro cm9 (qT9 ((q'.length : Nat) : Int)))); clear hr2 cm5 qT5 hg6 hown6 b67 R2 cm8 qT8 qT9 cm9 k9 hsT os8 hg8 z06 z16 z0 z1 q7 o7 hbw hup hlk)
                      go_roundw
                      case rel => exact ⟨b + 1, q' ++ [(nx, en)], tt ++ [((q'.length : Nat) : Int)], rfl, by omega, R3.out.1, R3.out.2.1, R3.out.2.2⟩
                      case measure => simp [intOf]; omega
              · have hne : (((m : Nat) : Int) != 0) = true := by simp; omega
                obtain ⟨hi64, hbit, hst⟩ := strike h0 hm64
                have hin := hmb _ hbit
                have cm5 := C4.out.1.other C4.out.2.2.2.2.2 (by decide) C4.out.2.2.1 C4.out.2.2.2.2.1 hZb hk
                have hTr : Tab wr := HT2.out.below cm5.kp
                have htz := Lib.hid (tz_any m hm64 wr hTr h0)
                have hlt := Lib.hid (show m &&& (m - 1) < m from Nat.lt_of_le_of_lt Nat.and_le_right (by omega))
                have hsub : IntKind.u64.wrap ((m : Int) - 1) = ((m - 1 : Nat) : Int) := by rw [IntKind.wrap_u64]; omega
                have hand : bits BinOp.and IntKind.u64 ((m : Nat) : Int) ((m - 1 : Nat) : Int) = ((m &&& (m - 1) : Nat) : Int) := bits_and_u64_nat _ _ hm64 (by omega)
                generalize Lib.ctz 64 m = p at *
                obtain ⟨N, hN⟩ : ∃ N, rs[p]? = some N := ⟨_, List.getElem?_eq_getElem hin⟩
                have hfl : fs.length = rs.length := by have h1 := HN.out.2.1; have h2 := HN.out.2.2.1; omega
                obtain ⟨f, hf⟩ : ∃ f, fs[p]? = some f := ⟨_, List.getElem?_eq_getElem (by omega)⟩
                have hf64 := HN.out.2.2.2.1 f (List.mem_of_getElem? hf)
                obtain ⟨rg, rcp, hrv⟩ := own_some cm5.or_ (by omega)
                obtain ⟨fg, fcp, hfv⟩ := own_some cm5.of_ (by omega)
                injection hrv with hr1 hr2 hr3
                injection hfv with hf1 hf2 hf3
                subst hr1 hr2 hr3 hf1 hf3
                have HS := Lib.hid (And.intro hbit (And.intro hst (And.intro hN hf)))
                have cr := CS_get hN
                have y0 := own_cell cm5.or_ cr.1
                have y1 := own_cell cm5.or_ cr.2.1
                have y2 := own_cell cm5.or_ cr.2.2.1
                have y3 := own_cell cm5.or_ cr.2.2.2
                have x0 : wr.cell? ⟨X, 0, none⟩ = some (.slice (some ⟨rg, 0, none⟩) rs.length rc) := cm5.bx.cell 0
                have hpl : ((p : Nat) : Int) < ((rs.length : Nat) : Int) := by omega
                have e0 : (⟨rg, 0, none⟩ : Addr).add (p * 4) = ⟨rg, p * 4, none⟩ := by simpa using addr_add rg 0 (p * 4)
                have hcv : IntKind.u8.wrap ((b : Nat) : Int) = ((b : Nat) : Int) := by rw [IntKind.wrap_u8]; omega
                have hhas := Lib.hid (has_any N b (by omega) wr)
                clear hbit hst cr
                go_wp2_with fail
                refine htz.out.mono ?_
                rintro e w5 ⟨rfl, rfl⟩
                go_wp2_with fail
                refine hhas.out.mono ?_
                rintro e w6 ⟨rfl, hb6⟩
                have cm6 := cm5.below hb6
                have qZ6 := qZ.below hb6
                have hk6 := hk.below hb6
                clear y0 y1 y2 y3 x0 cm5 qZ hk hTr htz hhas
                have hgd : rs.getD p 0 = N := by rw [List.getD_eq_getElem?_getD, HS.out.2.2.1]; rfl
                have hgf : fs.getD p 0 = f := by rw [List.getD_eq_getElem?_getD, HS.out.2.2.2]; rfl
                have g1 : gatE rs (fun _ => true) m b rs.length = _ := gatE_strike HS.out.1 HS.out.2.1 hin
                have g2 : gatN rs fs m b rs.length = _ := gatN_strike HS.out.1 HS.out.2.1 hin
                have g3 : gatE rs el.testBit m b rs.length = _ := gatE_strike HS.out.1 HS.out.2.1 hin
                rw [hgd] at g1 g2 g3
                rw [hgf] at g2
                have R1 := REL.out.1
                have R2 := REL.out.2.1
                have R3 := REL.out.2.2
                rw [g1] at R1
                rw [g2] at R2
                rw [g3] at R3
                have L64 := Lib.hid (show m &&& (m - 1) < 18446744073709551616 from Nat.lt_of_le_of_lt Nat.and_le_left hm64)
                have AB := Lib.hid (fun j (h : (m &&& (m - 1)).testBit j = true) => hmb j (by have h2 := HS.out.2.1 j; rw [h] at h2; have h3 := h2.symm; simp at h3; exact h3.1))
                clear g1 g2 g3 hgd hgf
                cases hbt : N.testBit b with
                | false =>
                  rw [hbt] at R1 R2 R3
                  simp only [Bool.false_and, Bool.false_or, Bool.false_eq_true, if_false, Nat.zero_or] at R1 R2 R3
                  have RR := Lib.hid (And.intro R1 (And.intro R2 R3))
                  clear R1 R2 R3 REL
                  go_wp2
                  go_roundw
                  case rel => exact ⟨m &&& (m - 1), nx, so, en, rfl, rfl, L64.out, AB.out, hnx, RR.out.1, RR.out.2.1, RR.out.2.2, qZ6, hk6⟩
                  case measure => simp [intOf]; exact hlt.out
                | true =>
                  rw [hbt] at R1 R2 R3
                  simp only [Bool.true_and, if_true] at R1 R2 R3
                  have hor : bits BinOp.or IntKind.u64 ((nx : Nat) : Int) ((f : Nat) : Int) = ((nx ||| f : Nat) : Int) := bits_or_u64_nat _ _ hnx hf64
                  have RR := Lib.hid (And.intro R1 (And.intro R2 R3))
                  clear R1 R2 R3 REL
                  have x1 : w6.cell? ⟨X, 1, none⟩ = some (.slice (some ⟨fg, 0, none⟩) rs.length fc) := cm6.bx.cell 1
                  have yf : w6.cell? ⟨fg, p, none⟩ = some (.int .u64 ((f : Nat) : Int)) := own_cell cm6.of_ (by unfold U64; rw [List.getElem?_map, HS.out.2.2.2]; rfl)
                  have e1 : (⟨fg, 0, none⟩ : Addr).add p = ⟨fg, p, none⟩ := by simpa using addr_add fg 0 p
                  have z0 := qZ6.cell 0
                  have fz := qZ6.frozen 0
                  go_upto_region 25 with fail
                  have z0d : w6.drew.cell? ⟨Z, 0, none⟩ = some (.int .u64 ((nx : Nat) : Int)) := z0
                  have fzd : w6.drew.frozen? ⟨Z, 0, none⟩ = false := fz
                  have qZ7 : Blk (w6.drew.setCell ⟨Z, 0, none⟩ (.int .u64 ((nx ||| f : Nat) : Int))) Z #[.int .u64 ((nx ||| f : Nat) : Int), .bool en] 77 := qZ6.drew.set 0 _
                  have k7 : Kp (fun z => z = Z) w4 (w6.drew.setCell ⟨Z, 0, none⟩ (.int .u64 ((nx ||| f : Nat) : Int))) := Kp.set (w1 := w6.drew) ⟨hk6.os, hk6.tape, hk6.output, hk6.size, hk6.block⟩ Z 0 _ (fun _ => rfl)
                  have qE7 : Blk (w6.drew.setCell ⟨Z, 0, none⟩ (.int .u64 ((nx ||| f : Nat) : Int))) E (enC ⟨ee, ef, el⟩) 74 := cm6.be.drew.other _ _ (cm6.be.ne qZ6 (by decide))
                  have P7 := Lib.hid (And.intro qZ7 (And.intro k7 qE7))
                  clear qZ7 k7 qE7 cm6 qZ6 hk6
                  go_still_tail 11, (by kernel_rfl)
                  repeat still_step
                  (try refine wpStill_nil ?_)
                  change wpList _ _ _ _ _ w6.drew
                  generalize w6.drew = wd at *
                  go_upto_region 26 with fail
                  generalize wd.setCell ⟨Z, 0, none⟩ (.int .u64 ((nx ||| f : Nat) : Int)) = w7 at *
                  obtain ⟨qZ7, k7, qE7⟩ := P7.out
                  clear P7 z0d fzd x1 yf e1 z0 fz
                  have z1 := qZ7.cell 1
                  have fz := qZ7.frozen 1
                  have l2 : w7.cell? ⟨E, 2, none⟩ = some (.int .u64 ((el : Nat) : Int)) := qE7.cell 2
                  have hp64 : p < 64 := hi64
                  have hel := (HN.out.2.2.2.2.2.2).lt (by have h1 := HLN.out.1.1; have h2 := HLN.out.2.1; have h3 := HLN.out.2.2; cases h3 with | ok h3 _ => omega)
                  have hbe : (bits BinOp.and IntKind.u64 (((el : Nat) : Int) / 2 ^ p) 1 == 1) = el.testBit p := by
                    have h2 : (((el : Nat) : Int) / 2 ^ p) = ((el / 2 ^ p : Nat) : Int) := by
                      push_cast
                      rfl
                    have h3 : el / 2 ^ p < 18446744073709551616 := Nat.lt_of_le_of_lt (Nat.div_le_self _ _) hel
                    have h4 := bits_and_u64_nat (el / 2 ^ p) 1 h3 (by decide)
                    rw [h2, show (1 : Int) = ((1 : Nat) : Int) from rfl, h4, Nat.and_one_is_mod, Nat.testBit_eq_decide_div_mod_eq]
                    by_cases h6 : el / 2 ^ p % 2 = 1
                    · rw [h6]; rfl
                    · have h7 : el / 2 ^ p % 2 = 0 := by omega
                      rw [h7]; rfl
                  have qZ8 : ∀ x : Bool, Blk (w7.setCell ⟨Z, 1, none⟩ (.bool x)) Z #[.int .u64 ((nx ||| f : Nat) : Int), .bool x] 77 := fun x => qZ7.set 1 _
                  have k8 : ∀ x : Bool, Kp (fun z => z = Z) w4 (w7.setCell ⟨Z, 1, none⟩ (.bool x)) := fun x => k7.set Z 1 _ (fun _ => rfl)
                  have P8 := Lib.hid (And.intro qZ8 k8)
                  clear qZ8 k8 qZ7 k7 qE7
                  have hnf : nx ||| f < 18446744073709551616 := Nat.or_lt_two_pow (n := 64) hnx hf64
                  have HBE := Lib.hid hbe
                  clear hbe
                  cases en with
                  | true =>
                    go_wp2
                    go_roundw
                    case rel => exact ⟨m &&& (m - 1), nx ||| f, true, true, rfl, rfl, L64.out, AB.out, hnf, by have h := RR.out.1; simpa using h, by rw [Nat.or_assoc]; exact RR.out.2.1, by have h := RR.out.2.2; simpa using h, P8.out.1 true, P8.out.2 true⟩
                    case measure => simp [intOf]; exact hlt.out
                  | false =>
                    go_wp2
                    rw [HBE.out]
                    go_roundw
                    case rel => exact ⟨m &&& (m - 1), nx ||| f, true, el.testBit p, rfl, rfl, L64.out, AB.out, hnf, by have h := RR.out.1; simpa using h, by rw [Nat.or_assoc]; exact RR.out.2.1, by have h := RR.out.2.2; simpa using h, P8.out.1 _, P8.out.2 _⟩
                    case measure => simp [intOf]; exact hlt.out
end Go.Proofs.YtlocogccjlecjaaDoor
