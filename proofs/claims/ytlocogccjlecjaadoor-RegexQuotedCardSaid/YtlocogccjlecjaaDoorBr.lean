import Derived.Test.YtlocogccjlecjaaDoorAtom
namespace Go.Proofs.YtlocogccjlecjaaDoor
open Go.RowKit
def Ph.start : Ph → Nat | .ex i => i | .exL i _ => i | .brL i _ => i | .atom i => i | .suf i _ => i
theorem Cls_lt {s : ByteArray} {i N j : Nat} (h : Cls s i (some (N, j))) : i < j := by
  have key : ∀ {i all : Nat} {f : Bool} {r : Option (Nat × Nat)}, ClsL s i f all r → ∀ a e, r = some (a, e) → i ≤ e := by
    intro i all f r h
    induction h with
    | done _ _ => intro a e he; cases he; exact Nat.le_refl _
    | one _ _ hi _ _ ih => intro a e he; have := ih a e he; have := innF_lt hi; omega
    | span _ _ hi _ he2 _ _ ih => intro a e he; have := ih a e he; have := innF_lt hi; have := innF_lt he2; omega
    | _ => intro a e he; cases he
  cases h with
  | ok h h0 =>
    have := key h _ _ rfl
    split at this <;> omega
/-- what is read goes on -/
theorem Gr_le {s : ByteArray} {ph : Ph} {r : Res} (h : Gr s ph r) : ∀ t j, r = .ok t j → ph.start ≤ j ∧ (∀ i, ph = .atom i → i < j) := by
  induction h with
  | exOk _ _ ih1 ih2 => intro t j e; have h1 := (ih1 _ _ rfl).1; have h2 := (ih2 _ _ e).1; exact ⟨by simp only [Ph.start] at *; omega, fun _ h => by cases h⟩
  | exEnd _ => intro t j e; cases e; exact ⟨Nat.le_refl _, fun _ h => by cases h⟩
  | exMore _ _ _ ih1 ih2 => intro t j e; have h1 := (ih1 _ _ rfl).1; have h2 := (ih2 _ _ e).1; exact ⟨by simp only [Ph.start] at *; omega, fun _ h => by cases h⟩
  | brEnd _ => intro t j e; cases e; exact ⟨Nat.le_refl _, fun _ h => by cases h⟩
  | brMore _ _ _ _ _ _ ih1 ih2 ih3 => intro t j e; have h1 := (ih1 _ _ rfl).1; have h2 := (ih2 _ _ rfl).1; have h3 := (ih3 _ _ e).1; exact ⟨by simp only [Ph.start] at *; omega, fun _ h => by cases h⟩
  | sufEnd _ => intro t j e; cases e; exact ⟨Nat.le_refl _, fun _ h => by cases h⟩
  | sufMore _ _ ih => intro t j e; have h1 := (ih _ _ e).1; exact ⟨by simp only [Ph.start] at *; omega, fun _ h => by cases h⟩
  | atPar _ _ _ ih => intro t j e; cases e; have h1 := (ih _ _ rfl).1; exact ⟨by simp only [Ph.start] at *; omega, fun _ h => by cases h; simp only [Ph.start] at *; omega⟩
  | atCls _ h2 => intro t j e; cases e; have := Cls_lt h2; exact ⟨by simp only [Ph.start]; omega, fun _ h => by cases h; omega⟩
  | atEsc _ h2 => intro t j e; cases e; have := escF_lt h2; exact ⟨by simp only [Ph.start]; omega, fun _ h => by cases h; omega⟩
  | atDot _ => intro t j e; cases e; exact ⟨by simp only [Ph.start]; omega, fun _ h => by cases h; omega⟩
  | atByte _ _ _ _ _ => intro t j e; cases e; exact ⟨by simp only [Ph.start]; omega, fun _ h => by cases h; omega⟩
  | _ => intro t j e; cases e
theorem Tr.isIface {P : Nat → Prop} {w : World} {v : Value} {t : Rx} (h : Tr P w v t) : ∃ ty x, v = .iface ty x := by
  cases h <;> exact ⟨_, _, rfl⟩
theorem info64 : (Tryd.prog.info? 64).map (fun i => (i.zero, i.size, i.bytes)) = some (some .nilIface, 1, 16) := by kernel_rfl
theorem conv_one (b : Nat) (B : Nat) (w : World) (hb : b < 256) (hc : w.cell? ⟨B, 0, none⟩ = some (.int .u8 (b : Int))) : (convert 37 9 (.slice (some ⟨B, 0, none⟩) 1 1)).run Tryd.prog w = .ok (.string ⟨#[b.toUInt8]⟩) w := by
  have h := run_convert_bytes_back (P := Tryd.prog) w 37 9 5 ⟨B, 0, none⟩ 1 [b.toUInt8] Tryd.underlying37 Tryd.underlying5 Tryd.underlying9 (fun j hj => by
    have hj0 : j = 0 := by simp at hj; omega
    subst hj0
    rw [show (⟨B, 0, none⟩ : Addr).add 0 = ⟨B, 0, none⟩ by simpa using addr_add B 0 0, hc]
    simp only [List.getElem_cons_zero]
    rw [show (b.toUInt8.toNat : Nat) = b by rw [Nat.toUInt8, UInt8.toNat_ofNat']; omega])
  exact h
theorem bne_lit (b k : Nat) : ((b : Int) != (k : Int)) = (b != k) := by
  by_cases h : b = k
  · subst h; simp
  · rw [bne, bne, ne_lit h, beq_eq_false_iff_ne.2 h]
/-- one part more is laid behind a row -/
theorem br_next {s : ByteArray} {p k2 n X g cap rc : Nat} {rA : Option Addr} {w wO w2 wE w6 : World} {vs : List Value} {acc y : Rx} {v : Value}
    (hpX : p < X) (hXa : w.heap.size ≤ X) (hkw : Kp (fun z => z = p) w wO) (hkO : Kp (fun z => z = p) wO wE) (h2 : wO.heap.size ≤ w2.heap.size) (qX : Blk wO X #[.slice rA n rc] 121)
    (oV : wO.ownsRow X 64 1 (.slice rA n rc) n vs) (RT : RowT (fun b => X < b ∧ (Value.slice rA n rc).ownBlock ≠ some b) wO vs acc) (HT : Tr (fun b => w2.heap.size ≤ b) wE v y) (hP : Prs wE p s k2)
    (os : w6.ownsRow X 64 1 (.slice (some ⟨g, 0, none⟩) (n + 1) cap) (n + 1) (vs ++ [v])) (hc : ((Value.slice rA n rc).ownBlock = some g ∧ wE.grownBy w6 (some g)) ∨ (wE.heap.size ≤ g ∧ wE.grownBy w6 none)) :
    Prs (w6.setCell ⟨X, 0, none⟩ (.slice (some ⟨g, 0, none⟩) (n + 1) cap)) p s k2 ∧ Blk (w6.setCell ⟨X, 0, none⟩ (.slice (some ⟨g, 0, none⟩) (n + 1) cap)) X #[.slice (some ⟨g, 0, none⟩) (n + 1) cap] 121 ∧
    (w6.setCell ⟨X, 0, none⟩ (.slice (some ⟨g, 0, none⟩) (n + 1) cap)).ownsRow X 64 1 (.slice (some ⟨g, 0, none⟩) (n + 1) cap) (n + 1) (vs ++ [v]) ∧
    RowT (fun b => X < b ∧ (Value.slice (some ⟨g, 0, none⟩) (n + 1) cap).ownBlock ≠ some b) (w6.setCell ⟨X, 0, none⟩ (.slice (some ⟨g, 0, none⟩) (n + 1) cap)) (vs ++ [v]) (.seq acc y) ∧
    Kp (fun z => z = p) w (w6.setCell ⟨X, 0, none⟩ (.slice (some ⟨g, 0, none⟩) (n + 1) cap)) ∧ w6.cell? ⟨X, 0, none⟩ = some (.slice rA n rc) ∧ w6.frozen? ⟨X, 0, none⟩ = false := by
  have hvl := own_lt oV
  have hsE := hkO.size
  have qXE := qX.kp hkO (by omega)
  have oVE := ownKp oV hkO (fun z e h => by have := (hvl z e).1; omega)
  have hXlt := qX.lt
  have hk6 : Kp (fun z => (Value.slice rA n rc).ownBlock = some z) wE w6 := by
    rcases hc with ⟨h1, h3⟩ | ⟨h1, h3⟩
    · exact (Kp.of_grown h3).mono (fun z _ e => by cases e; exact h1)
    · exact (Kp.of_grown h3).mono (fun z _ e => by cases e)
  have hnX : ¬ (Value.slice rA n rc).ownBlock = some X := fun e => qXE.not_row (by decide) oVE e.symm
  have qX6 := qXE.kp hk6 hnX
  have hkN : Kp (fun z => z = X ∨ (Value.slice rA n rc).ownBlock = some z) wE (w6.setCell ⟨X, 0, none⟩ (.slice (some ⟨g, 0, none⟩) (n + 1) cap)) := (hk6.mono (fun z _ e => .inr e)).set X 0 _ (fun _ => .inl rfl)
  have hgX : some X ≠ (Value.slice (some ⟨g, 0, none⟩) (n + 1) cap).ownBlock := qX6.not_row (by decide) os
  have hg : ∀ b, b < wE.heap.size → (Value.slice rA n rc).ownBlock ≠ some b → (Value.slice (some ⟨g, 0, none⟩) (n + 1) cap).ownBlock ≠ some b := fun b hb hn e => by
    have e2 : g = b := by simpa [Value.ownBlock] using e
    subst e2
    rcases hc with ⟨h1, _⟩ | ⟨h1, _⟩
    · exact hn h1
    · omega
  refine ⟨Blk.kp hP hkN ?_, by have := qX6.set 0 (.slice (some ⟨g, 0, none⟩) (n + 1) cap); exact this, own_set_other os X 0 _ hgX, .snoc ?_ ?_, ?_, qX6.cell 0, qX6.frozen 0⟩
  · rintro (e | e)
    · omega
    · have := (hvl p e).1; omega
  · have hkA : Kp (fun z => z = p ∨ z = X ∨ (Value.slice rA n rc).ownBlock = some z) wO (w6.setCell ⟨X, 0, none⟩ (.slice (some ⟨g, 0, none⟩) (n + 1) cap)) := (hkO.mono (fun _ _ h => .inl h)).step hkN (fun z _ h => .inr h)
    exact RT.kp hkA (fun b hb h e => by
      rcases e with e | e | e
      · omega
      · omega
      · exact h.2 e) (fun b hb h => ⟨h.1, hg b (by omega) h.2⟩)
  · refine HT.kp hkN (fun b hb h e => ?_) (fun b hb h => ⟨by omega, hg b hb (fun e => by have := (hvl b e).2; omega)⟩)
    rcases e with e | e
    · omega
    · have := (hvl b e).2; omega
  · exact (hkw.trans hkO).step hkN (fun z hz e => by
      rcases e with e | e
      · omega
      · have := (hvl z e).1; omega)
set_option maxRecDepth 100000 in
set_option maxHeartbeats 8000000 in
/-- branch -/
theorem branch_any (s : ByteArray) (p i : Nat) (w : World) (hp : Prs w p s i) (hi : i ≤ s.size) (hs : s.size ≤ 64) (hT : Tab w)
    (HA : ∀ i', i ≤ i' → i' < s.size → ∀ w', Prs w' p s i' → Tab w' → Calls Tryd.prog 58 #[.pointer (some ⟨p, 0, none⟩), .int .u8 ((bt s i' : Nat) : Int)] w' fun e w'' => GrPost s p (.atom i') w' e w'') :
    Calls Tryd.prog 52 #[.pointer (some ⟨p, 0, none⟩)] w fun e w' => GrPost s p (.brL i .eps) w e w' := by
  have hp0 := hp.ne0 hT
  have hpw : p < w.heap.size := Blk.lt hp
  have h0 : Below w.heap.size w (w.alloc (.cells #[.slice none 0 0] 121)) := by go_grown
  have qX := Blk.new w #[.slice none 0 0] 121
  have hP : Prs (w.alloc (.cells #[.slice none 0 0] 121)) p s i := Blk.below hp h0
  have hk : Kp (fun z => z = p) w (w.alloc (.cells #[.slice none 0 0] 121)) := Kp.of_below h0
  go_enter Tryd.func52, Tryd.ntmps52
  go_wp2
  generalize w.alloc (.cells #[.slice none 0 0] 121) = w1 at *
  obtain ⟨X, hX⟩ : ∃ X, X = w.heap.size := ⟨_, rfl⟩
  rw [← hX] at qX ⊢
  have hXa : w.heap.size ≤ X := by omega
  have hXb : X ≤ w.heap.size := by omega
  clear hX
  go_loopw [4, 5, 6, 7, 8] (fun _ _ _ _ _ wr => ∃ (k n : Nat) (acc : Rx) (rv : Value) (vs : List Value), i ≤ k ∧ k ≤ s.size ∧ n ≤ k ∧ Prs wr p s k ∧ Blk wr X #[rv] 121 ∧ wr.ownsRow X 64 1 rv n vs ∧ RowT (fun b => X < b ∧ rv.ownBlock ≠ some b) wr vs acc ∧ Kp (fun z => z = p) w wr ∧ (∀ r, Gr s (.brL k acc) r → Gr s (.brL i .eps) r)) (fun _ _ _ _ _ wr => s.size + 1 - atOf p wr)
  case atStart => exact ⟨i, 0, .eps, _, [], Nat.le_refl _, hi, Nat.zero_le _, hP, qX, World.ownsRow_nil _ _ _ _, .nil, hk, fun _ h => h⟩
  case round =>
    clear hP qX hk h0
    obtain ⟨k, n, acc, rv, vs, hik, hks, hnk, hP, qX, oV, hRT, hk, hrel⟩ := hrel
    have HM := Lib.hid hP.at
    have REL := Lib.hid hrel
    have RT := Lib.hid hRT
    clear hrel hRT
    obtain ⟨wO, hwO⟩ : ∃ wO, wO = wr := ⟨_, rfl⟩
    subst hwO
    go_wp2_with fail
    refine (next_any s p k wO hP).mono ?_
    rintro e w2 ⟨rfl, hb3⟩
    have hP2 : Prs w2 p s k := Blk.below hP hb3
    have qX2 := qX.below hb3
    obtain ⟨rA, rc, rfl, _, _⟩ := own_rd oV
    have hvn : vs.length = n := by have := oV.1; omega
    have x0 : w2.cell? ⟨X, 0, none⟩ = some (.slice rA n rc) := qX2.cell 0
    by_cases hend : s.size ≤ k ∨ bt s k = 124 ∨ bt s k = 41
    · have R1 := Lib.hid (REL.out _ (.brEnd hend))
      have FIN := Lib.hid (And.intro hP2 (And.intro (Tr.row (P := fun b => w.heap.size ≤ b) (A := rA) (c := rc) (n := n) hvn ((own_rp (own_below oV hb3) (fun b => w.heap.size ≤ b) (fun b h => by have := (own_lt oV b h).1; omega))) (RT.out.kp (.of_below (S := fun _ => False) hb3) (fun _ _ _ h => h) (fun b _ h => by omega))) (hk.below hb3)))
      by_cases hk2 : s.size ≤ k
      · rw [if_neg (by omega), decide_eq_false (by omega)]
        clear hend
        go_wp2
        go_returns
        exact ⟨FIN.out.2.2, _, R1.out, _, rfl, hks, FIN.out.1, FIN.out.2.1⟩
      · rw [if_pos (by omega), decide_eq_true (by omega)]
        rcases hend with h | h | h
        · exact absurd h hk2
        · rw [h]
          clear h
          go_wp2
          go_returns
          exact ⟨FIN.out.2.2, _, R1.out, _, rfl, hks, FIN.out.1, FIN.out.2.1⟩
        · rw [h]
          clear h
          go_wp2
          go_returns
          exact ⟨FIN.out.2.2, _, R1.out, _, rfl, hks, FIN.out.1, FIN.out.2.1⟩
    · have hkl : k < s.size := Nat.lt_of_not_le (fun h => hend (.inl h))
      have h124 : bt s k ≠ 124 := fun h => hend (.inr (.inl h))
      have h41 : bt s k ≠ 41 := fun h => hend (.inr (.inr h))
      rw [if_pos hkl, decide_eq_true hkl]
      have HN := Lib.hid (And.intro h124 h41)
      clear hend
      obtain ⟨b, hb⟩ : ∃ b, b = bt s k := ⟨_, rfl⟩
      rw [← hb] at h124 h41 ⊢
      have HB := Lib.hid hb
      have HA2 := Lib.hid (fun w' => HA k hik hkl w')
      rw [← hb] at HA2
      clear hb
      have n124 : ((b : Int) == 124) = false := ne_lit h124
      have n41 : ((b : Int) == 41) = false := ne_lit h41
      have hkO : Kp (fun z => z = p) wO w2 := Kp.of_below hb3
      have hT2 : Tab w2 := hT.kp (hk.trans hkO) (fun e => hp0 e.symm)
      clear x0 qX2
      go_wp2_with fail
      refine (HA2.out w2 hP2 hT2).mono ?_
      rintro e w3 ⟨hk3, r, hg, hm⟩
      have HG := Lib.hid hg
      clear hg
      cases r with
      | bad pl =>
        simp only at hm
        subst hm
        have R1 := Lib.hid (REL.out _ (.brBad hkl HN.out.1 HN.out.2 HG.out))
        have hkf := Lib.hid ((hk.trans hkO).trans hk3)
        unfold Fault
        go_wp2
        exact ⟨rfl, hkf.out, _, R1.out, rfl⟩
      | ok t j =>
        obtain ⟨v, rfl, hj, hP3, hTr⟩ := hm
        have hkj := (Gr_le HG.out _ _ rfl).2 _ rfl
        have hX2 : X < w2.heap.size := by have := qX.lt; have := hb3.size; omega
        have hO2 := hb3.size
        have hTr3 := Lib.hid hTr
        have hX3 : w2.heap.size ≤ w3.heap.size := hk3.size
        have hk23 := Lib.hid hk3
        clear hTr hk3
        go_wp2_with fail
        go_loopw [6, 7, 8] (fun yv _ _ wr => ∃ (y : Rx) (k2 : Nat), j ≤ k2 ∧ k2 ≤ s.size ∧ Prs wr p s k2 ∧ Tr (fun b => w2.heap.size ≤ b) wr yv y ∧ Kp (fun z => z = p) w3 wr ∧ (∀ r, Gr s (.suf k2 y) r → Gr s (.suf j t) r)) (fun _ _ _ wr => s.size + 1 - atOf p wr)
        case atStart => exact ⟨t, j, Nat.le_refl _, hj, hP3, hTr3.out, Kp.refl _ _, fun _ h => h⟩
        case round =>
          clear hP3
          obtain ⟨y, k2, hjk, hks2, hP4, hTr4, hk4, hrel2⟩ := hrel
          have HM2 := Lib.hid hP4.at
          have REL2 := Lib.hid hrel2
          have HT4 := Lib.hid hTr4
          obtain ⟨ty, xv, rfl⟩ := hTr4.isIface
          clear hrel2 hTr4
          go_wp2_with fail
          refine (next_any s p k2 wr hP4).mono ?_
          rintro e w5 ⟨rfl, hb5⟩
          have hP5 : Prs w5 p s k2 := Blk.below hP4 hb5
          have hk5 := hk4.below hb5
          have hTr5 := Lib.hid (HT4.out.kp (P2 := fun b => w2.heap.size ≤ b) (.of_below (S := fun _ => False) hb5) (fun _ _ _ h => h) (fun _ _ h => h))
          by_cases hk2s : s.size ≤ k2
          · rw [if_neg (by omega), decide_eq_false (by omega)]
            have RS := Lib.hid (REL2.out _ (.sufEnd (fun h => by have := h.1; omega)))
            have hkE : Kp (fun z => z = p) wO w5 := ((hkO.trans hk23.out).trans hk4).below hb5
            have hsE := hkE.size
            have qXE := qX.kp hkE (by omega)
            have oVE := ownKp oV hkE (fun z e h => by have := (own_lt oV z e).1; omega)
            have xE : w5.cell? ⟨X, 0, none⟩ = some (.slice rA n rc) := qXE.cell 0
            have hXE : X ≤ w5.heap.size := Nat.le_of_lt qXE.lt
            have NX := Lib.hid (fun (g cap : Nat) (w6 : World) (os : w6.ownsRow X 64 1 (.slice (some ⟨g, 0, none⟩) (n + 1) cap) (n + 1) (vs ++ [.iface ty xv])) hc => br_next (p := p) (w := w) (w2 := w2) (by omega) hXa hk hkE hO2 qX oV RT.out hTr5.out hP5 os hc)
            have RN := Lib.hid (fun r (h : Gr s (.brL k2 (.seq acc y)) r) => REL.out r (.brMore hkl HN.out.1 HN.out.2 HG.out RS.out h))
            have hn64 : (n + 1) * 16 ≤ 140737488355328 := by omega
            have HK2 := Lib.hid (show k + 1 ≤ k2 by omega)
            have HP2 := Lib.hid (And.intro hks2 hnk)
            clear hb5 qXE hkE
            go_wp2_with (at_builtin; refine appK (W := w5) X rfl _ _ 119 64 .nilIface 16 rfl Tryd.underlying119 info64 rfl (by decide) (.slice rA n rc) n vs (.iface ty xv) rfl rfl rfl oVE hXE hn64 ?_; intro g9 cap9 w9 os9 hc9; have N9 := Lib.hid (NX.out g9 cap9 w9 os9 hc9); have x9 := (NX.out g9 cap9 w9 os9 hc9).2.2.2.2.2.1; have f9 := (NX.out g9 cap9 w9 os9 hc9).2.2.2.2.2.2)
            go_roundw
            case rel => exact ⟨k2, n + 1, _, _, _, by have := HK2.out; omega, HP2.out.1, by have := HK2.out; have := HP2.out.2; omega, N9.out.1, N9.out.2.1, N9.out.2.2.1, N9.out.2.2.2.1, N9.out.2.2.2.2.1, RN.out⟩
            case measure =>
              have hat : atOf p _ = k2 := Prs.at N9.out.1
              rw [hat, HM.out]
              have := HK2.out
              have := HP2.out.1
              omega
          · rw [if_pos (by omega), decide_eq_true (by omega)]
            obtain ⟨b2, hb2⟩ : ∃ b2, b2 = bt s k2 := ⟨_, rfl⟩
            rw [← hb2]
            have HB2 := Lib.hid hb2
            have hb2l : b2 < 256 := by rw [hb2]; exact bt_lt _ _
            clear hb2
            have hbA : Below w5.heap.size w5 (w5.alloc (.cells #[.int .u8 (b2 : Int)] 5)) := by go_grown
            have hcv : (convert 37 9 (.slice (some ⟨w5.heap.size, 0, none⟩) 1 1)).run Tryd.prog (w5.alloc (.cells #[.int .u8 (b2 : Int)] 5)) = .ok (.string ⟨#[b2.toUInt8]⟩) (w5.alloc (.cells #[.int .u8 (b2 : Int)] 5)) := by
              have hc : (w5.alloc (.cells #[.int .u8 (b2 : Int)] 5)).cell? ⟨w5.heap.size, 0, none⟩ = some (.int .u8 (b2 : Int)) := (Blk.new w5 #[.int .u8 (b2 : Int)] 5).cell 0
              exact conv_one _ _ _ hb2l hc
            go_wp2_with fail
            refine (contains_suf b2 _).mono ?_
            rintro e w7 ⟨rfl, rfl⟩
            clear hcv
            generalize w5.alloc (.cells #[.int .u8 (b2 : Int)] 5) = w7 at *
            have hP5 : Prs w7 p s k2 := Blk.below hP5 hbA
            have hk5 := hk5.below hbA
            have hTr5 := Lib.hid (hTr5.out.kp (P2 := fun b => w2.heap.size ≤ b) (.of_below (S := fun _ => False) hbA) (fun _ _ _ h => h) (fun _ _ h => h))
            cases hsf : isIn sufL b2 with
            | false =>
              have RS := Lib.hid (REL2.out _ (.sufEnd (fun h => by rw [← HB2.out, hsf] at h; cases h.2)))
              clear hsf
              have hkE : Kp (fun z => z = p) wO w7 := (((hkO.trans hk23.out).trans hk4).below hb5).below hbA
              have hsE := hkE.size
              have qXE := qX.kp hkE (by omega)
              have oVE := ownKp oV hkE (fun z e h => by have := (own_lt oV z e).1; omega)
              have xE : w7.cell? ⟨X, 0, none⟩ = some (.slice rA n rc) := qXE.cell 0
              have hXE : X ≤ w7.heap.size := Nat.le_of_lt qXE.lt
              have NX := Lib.hid (fun (g cap : Nat) (w6 : World) (os : w6.ownsRow X 64 1 (.slice (some ⟨g, 0, none⟩) (n + 1) cap) (n + 1) (vs ++ [.iface ty xv])) hc => br_next (p := p) (w := w) (w2 := w2) (by omega) hXa hk hkE hO2 qX oV RT.out hTr5.out hP5 os hc)
              have RN := Lib.hid (fun r (h : Gr s (.brL k2 (.seq acc y)) r) => REL.out r (.brMore hkl HN.out.1 HN.out.2 HG.out RS.out h))
              have hn64 : (n + 1) * 16 ≤ 140737488355328 := by omega
              have HK2 := Lib.hid (show k + 1 ≤ k2 by omega)
              have HP2 := Lib.hid (And.intro hks2 hnk)
              clear hbA qXE hkE
              go_wp2_with (at_builtin; refine appK (W := w7) X rfl _ _ 119 64 .nilIface 16 rfl Tryd.underlying119 info64 rfl (by decide) (.slice rA n rc) n vs (.iface ty xv) rfl rfl rfl oVE hXE hn64 ?_; intro g9 cap9 w9 os9 hc9; have N9 := Lib.hid (NX.out g9 cap9 w9 os9 hc9); have x9 := (NX.out g9 cap9 w9 os9 hc9).2.2.2.2.2.1; have f9 := (NX.out g9 cap9 w9 os9 hc9).2.2.2.2.2.2)
              go_roundw
              case rel => exact ⟨k2, n + 1, _, _, _, by have := HK2.out; omega, HP2.out.1, by have := HK2.out; have := HP2.out.2; omega, N9.out.1, N9.out.2.1, N9.out.2.2.1, N9.out.2.2.2.1, N9.out.2.2.2.2.1, RN.out⟩
              case measure =>
                have hat : atOf p _ = k2 := Prs.at N9.out.1
                rw [hat, HM.out]
                have := HK2.out
                have := HP2.out.1
                omega
            | true =>
              obtain ⟨e1, he1⟩ : ∃ e1, e1 = (b2 != 43) := ⟨_, rfl⟩
              obtain ⟨e2, he2⟩ : ∃ e2, e2 = (b2 != 63) := ⟨_, rfl⟩
              have RS := Lib.hid (fun r (h : Gr s (.suf (k2 + 1) (.loop y e1 e2)) r) => REL2.out r (.sufMore ⟨by omega, by rw [← HB2.out]; exact hsf⟩ (by rw [← HB2.out, ← he1, ← he2]; exact h)))
              have hn1 : ((b2 : Int) != 43) = e1 := by rw [he1]; exact bne_lit b2 43
              have hn2 : ((b2 : Int) != 63) = e2 := by rw [he2]; exact bne_lit b2 63
              have hk264 : k2 < 64 := by omega
              clear hsf he1 he2
              have y1 : w7.cell? ⟨p, 1, none⟩ = some (.int .i64 (k2 : Int)) := Blk.cell hP5 1
              have f1 := Blk.frozen hP5 1
              have hPn : Prs (w7.setCell ⟨p, 1, none⟩ (.int .i64 ((k2 : Int) + 1))) p s (k2 + 1) := Blk.set hP5 1 (.int .i64 ((k2 : Int) + 1))
              have hkn : Kp (fun z => z = p) w3 (w7.setCell ⟨p, 1, none⟩ (.int .i64 ((k2 : Int) + 1))) := hk5.set p 1 _ (fun _ => rfl)
              have hTn := hTr5.out.kp (P2 := fun b => w2.heap.size ≤ b) ((Kp.refl (fun z => z = p) w7).set p 1 (.int .i64 ((k2 : Int) + 1)) (fun _ => rfl)) (fun b _ h e => by omega) (fun _ _ h => h)
              have FN := Lib.hid (And.intro hPn (And.intro (Tr.loop (a := e1) (b := e2) hTn) hkn))
              clear hPn hkn hTn
              have HJ := Lib.hid (And.intro hjk (show k2 + 1 ≤ s.size by omega))
              go_wp2_with fail
              refine ⟨⟨.loop y e1 e2, k2 + 1, by have := HJ.out.1; omega, HJ.out.2, FN.out.1, FN.out.2.1, FN.out.2.2, RS.out⟩, ?_⟩
              have hat : atOf p _ = k2 + 1 := Prs.at FN.out.1
              rw [hat, HM2.out]
              omega
end Go.Proofs.YtlocogccjlecjaaDoor
