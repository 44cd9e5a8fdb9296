import Derived.Test.YtlocogccjlecjaaDoorBr
namespace Go.Proofs.YtlocogccjlecjaaDoor
open Go.RowKit
theorem own_one (w : World) (v : Value) (e : TypeId) (base : Nat) (hb : base ≤ w.heap.size) : (w.alloc (.cells #[v] e)).ownsRow base e 1 (.slice (some ⟨w.heap.size, 0, none⟩) 1 1) 1 [v] :=
  ⟨rfl, .inr ⟨w.heap.size, 1, #[v], rfl, hb, Blk.new w #[v] e, Nat.le_refl _, by decide, rfl, rfl⟩⟩
/-- one branch more is laid behind a choice -/
theorem fk_next {s : ByteArray} {p k2 n X g cap rc : Nat} {rA : Option Addr} {w wO w2 wE w6 : World} {vs : List Value} {acc y : Rx} {v : Value}
    (hpw : p < w.heap.size) (hXa : w.heap.size ≤ X) (hkw : Kp (fun z => z = p) w wO) (hkO : Kp (fun z => z = p) wO wE) (h2 : wO.heap.size ≤ w2.heap.size) (qX : Blk wO X #[.slice rA n rc] 123)
    (oV : wO.ownsRow w.heap.size 64 1 (.slice rA n rc) n vs) (RT : ForkT (fun b => w.heap.size ≤ b ∧ b ≠ X ∧ (Value.slice rA n rc).ownBlock ≠ some b) wO vs acc) (HT : Tr (fun b => w2.heap.size ≤ b) wE v y) (hP : Prs wE p s k2)
    (os : w6.ownsRow w.heap.size 64 1 (.slice (some ⟨g, 0, none⟩) (n + 1) cap) (n + 1) (vs ++ [v])) (hgr : wE.grownBy w6 (Value.slice rA n rc).ownBlock) (hc : (Value.slice rA n rc).ownBlock = some g ∨ wE.heap.size ≤ g) :
    Prs (w6.setCell ⟨X, 0, none⟩ (.slice (some ⟨g, 0, none⟩) (n + 1) cap)) p s k2 ∧ Blk (w6.setCell ⟨X, 0, none⟩ (.slice (some ⟨g, 0, none⟩) (n + 1) cap)) X #[.slice (some ⟨g, 0, none⟩) (n + 1) cap] 123 ∧
    (w6.setCell ⟨X, 0, none⟩ (.slice (some ⟨g, 0, none⟩) (n + 1) cap)).ownsRow w.heap.size 64 1 (.slice (some ⟨g, 0, none⟩) (n + 1) cap) (n + 1) (vs ++ [v]) ∧
    ForkT (fun b => w.heap.size ≤ b ∧ b ≠ X ∧ (Value.slice (some ⟨g, 0, none⟩) (n + 1) cap).ownBlock ≠ some b) (w6.setCell ⟨X, 0, none⟩ (.slice (some ⟨g, 0, none⟩) (n + 1) cap)) (vs ++ [v]) (.alt acc y) ∧
    Kp (fun z => z = p) w (w6.setCell ⟨X, 0, none⟩ (.slice (some ⟨g, 0, none⟩) (n + 1) cap)) ∧ w6.cell? ⟨X, 0, none⟩ = some (.slice rA n rc) ∧ w6.frozen? ⟨X, 0, none⟩ = false := by
  have hvl := own_lt oV
  have hsE := hkO.size
  have hsw := hkw.size
  have qXE := qX.kp hkO (by omega)
  have oVE := ownKp oV hkO (fun z e h => by have := (hvl z e).1; omega)
  have hXlt := qX.lt
  have hk6 : Kp (fun z => (Value.slice rA n rc).ownBlock = some z) wE w6 := (Kp.of_grown hgr).mono (fun z _ e => e)
  have hnX : ¬ (Value.slice rA n rc).ownBlock = some X := fun e => qXE.not_row (by decide) oVE e.symm
  have qX6 := qXE.kp hk6 hnX
  have hkN : Kp (fun z => z = X ∨ (Value.slice rA n rc).ownBlock = some z) wE (w6.setCell ⟨X, 0, none⟩ (.slice (some ⟨g, 0, none⟩) (n + 1) cap)) := (hk6.mono (fun z _ e => .inr e)).set X 0 _ (fun _ => .inl rfl)
  have hgX : some X ≠ (Value.slice (some ⟨g, 0, none⟩) (n + 1) cap).ownBlock := qX6.not_row (by decide) os
  have hg : ∀ b, b < wE.heap.size → (Value.slice rA n rc).ownBlock ≠ some b → (Value.slice (some ⟨g, 0, none⟩) (n + 1) cap).ownBlock ≠ some b := fun b hb hn e => by
    have e2 : g = b := by simpa [Value.ownBlock] using e
    subst e2
    rcases hc with h1 | h1
    · exact hn h1
    · omega
  refine ⟨Blk.kp hP hkN ?_, by have := qX6.set 0 (.slice (some ⟨g, 0, none⟩) (n + 1) cap); exact this, own_set_other os X 0 _ hgX, .snoc ?_ ?_, ?_, qX6.cell 0, qX6.frozen 0⟩
  · rintro (e | e)
    · omega
    · have := (hvl p e).1; omega
  · have hkA : Kp (fun z => z = p ∨ z = X ∨ (Value.slice rA n rc).ownBlock = some z) wO (w6.setCell ⟨X, 0, none⟩ (.slice (some ⟨g, 0, none⟩) (n + 1) cap)) := (hkO.mono (fun _ _ h => .inl h)).step hkN (fun z _ h => .inr h)
    exact RT.kp hkA (fun b hb h e => by
      rcases e with e | e | e
      · omega
      · exact h.2.1 e
      · exact h.2.2 e) (fun b hb h => ⟨h.1, h.2.1, hg b (by omega) h.2.2⟩)
  · refine HT.kp hkN (fun b hb h e => ?_) (fun b hb h => ⟨by omega, by omega, hg b hb (fun e => by have := (hvl b e).2; omega)⟩)
    rcases e with e | e
    · omega
    · have := (hvl b e).2; omega
  · exact (hkw.trans hkO).step hkN (fun z hz e => by
      rcases e with e | e
      · omega
      · have := (hvl z e).1; omega)
set_option maxRecDepth 100000 in
set_option maxHeartbeats 8000000 in
/-- expression -/
theorem expr_any (s : ByteArray) (p i : Nat) (w : World) (hp : Prs w p s i) (hi : i ≤ s.size) (hs : s.size ≤ 64) (hT : Tab w)
    (HB : ∀ i', i ≤ i' → i' ≤ s.size → ∀ w', Prs w' p s i' → Tab w' → Calls Tryd.prog 52 #[.pointer (some ⟨p, 0, none⟩)] w' fun e w'' => GrPost s p (.brL i' .eps) w' e w'') :
    Calls Tryd.prog 41 #[.pointer (some ⟨p, 0, none⟩)] w fun e w' => GrPost s p (.ex i) w e w' := by
  have hp0 := hp.ne0 hT
  have hpw : p < w.heap.size := Blk.lt hp
  have HBi := Lib.hid (HB i (Nat.le_refl _) hi w hp hT)
  go_enter Tryd.func41, Tryd.ntmps41
  go_wp2_with fail
  refine HBi.out.mono ?_
  rintro e w2 ⟨hk, r, hg, hm⟩
  have HG := Lib.hid hg
  clear hg HBi
  cases r with
  | bad pl =>
    simp only at hm
    subst hm
    unfold Fault
    go_wp2
    exact ⟨rfl, hk, _, .exBad HG.out, rfl⟩
  | ok t j =>
    obtain ⟨v, rfl, hj, hP, hTr⟩ := hm
    have hij := (Gr_le HG.out _ _ rfl).1
    obtain ⟨ty, xv, rfl⟩ := hTr.isIface
    have hTr2 := Lib.hid hTr
    clear hTr
    have hb3 : Below w2.heap.size w2 ((w2.alloc (.cells #[.iface ty xv] 64)).alloc (.cells #[.slice (some ⟨w2.heap.size, 0, none⟩) 1 1] 123)) := by go_grown
    have oV := own_below (own_one w2 (.iface ty xv) 64 w.heap.size hk.size) (show Below (w2.alloc (.cells #[.iface ty xv] 64)).heap.size (w2.alloc (.cells #[.iface ty xv] 64)) ((w2.alloc (.cells #[.iface ty xv] 64)).alloc (.cells #[.slice (some ⟨w2.heap.size, 0, none⟩) 1 1] 123)) by go_grown)
    have qX := Blk.new (w2.alloc (.cells #[.iface ty xv] 64)) #[.slice (some ⟨w2.heap.size, 0, none⟩) 1 1] 123
    simp only [World.size_alloc] at qX
    have hsz := hk.size
    have FT : ForkT (fun b => w.heap.size ≤ b ∧ b ≠ w2.heap.size + 1 ∧ (Value.slice (some ⟨w2.heap.size, 0, none⟩) 1 1).ownBlock ≠ some b) ((w2.alloc (.cells #[.iface ty xv] 64)).alloc (.cells #[.slice (some ⟨w2.heap.size, 0, none⟩) 1 1] 123)) [.iface ty xv] (.alt .no t) :=
      ForkT.snoc (vs := []) .nil (hTr2.out.kp (.of_below (S := fun _ => False) hb3) (fun _ _ _ h => h) (fun b hb h => ⟨h, by omega, fun e => by
        have : w2.heap.size = b := by simpa [Value.ownBlock] using e
        omega⟩))
    have FT2 := Lib.hid FT
    have hP3 : Prs ((w2.alloc (.cells #[.iface ty xv] 64)).alloc (.cells #[.slice (some ⟨w2.heap.size, 0, none⟩) 1 1] 123)) p s j := Blk.below hP hb3
    have hk3 := hk.below hb3
    have REL := Lib.hid (fun r (h : Gr s (.exL j (.alt .no t)) r) => Gr.exOk HG.out h)
    clear FT hP hk
    go_wp2
    generalize (w2.alloc (.cells #[.iface ty xv] 64)).alloc (.cells #[.slice (some ⟨w2.heap.size, 0, none⟩) 1 1] 123) = w3 at *
    obtain ⟨X, hX⟩ : ∃ X, X = w2.heap.size + 1 := ⟨_, rfl⟩
    obtain ⟨G, hG⟩ : ∃ G, G = w2.heap.size := ⟨_, rfl⟩
    rw [← hX] at qX FT2 ⊢
    rw [← hG] at qX FT2 oV ⊢
    have hXa : w.heap.size ≤ X := by omega
    clear hX hG hb3
    go_loopw [4, 5] (fun _ _ wr => ∃ (k n : Nat) (acc : Rx) (rv : Value) (vs : List Value), i ≤ k ∧ k ≤ s.size ∧ n ≤ k + 1 ∧ Prs wr p s k ∧ Blk wr X #[rv] 123 ∧ wr.ownsRow w.heap.size 64 1 rv n vs ∧ ForkT (fun b => w.heap.size ≤ b ∧ b ≠ X ∧ rv.ownBlock ≠ some b) wr vs acc ∧ Kp (fun z => z = p) w wr ∧ (∀ r, Gr s (.exL k acc) r → Gr s (.ex i) r)) (fun _ _ wr => s.size + 1 - atOf p wr)
    case atStart => exact ⟨j, 1, _, _, _, hij, hj, by omega, hP3, qX, oV, FT2.out, hk3, REL.out⟩
    case round =>
      clear hP3 qX hk3 oV FT2 REL
      obtain ⟨k, n, acc, rv, vs, hik, hks, hnk, hP, qX, oV, hRT, hk, hrel⟩ := hrel
      have HM := Lib.hid hP.at
      have REL := Lib.hid hrel
      have RT := Lib.hid hRT
      clear hrel hRT
      obtain ⟨wO, hwO⟩ : ∃ wO, wO = wr := ⟨_, rfl⟩
      subst hwO
      go_wp2_with fail
      refine (next_any s p k wO hP).mono ?_
      rintro e w4 ⟨rfl, hb4⟩
      have hP2 : Prs w4 p s k := Blk.below hP hb4
      have qX2 := qX.below hb4
      obtain ⟨rA, rc, rfl, _, _⟩ := own_rd oV
      have hvn : vs.length = n := by have := oV.1; omega
      have x0 : w4.cell? ⟨X, 0, none⟩ = some (.slice rA n rc) := qX2.cell 0
      by_cases hgo : k < s.size ∧ bt s k = 124
      · rw [if_pos hgo.1, decide_eq_true hgo.1, hgo.2]
        have HGO := Lib.hid hgo
        have hk64 : k < 64 := by have := hgo.1; omega
        have hk1s : k + 1 ≤ s.size := hgo.1
        clear hgo
        have y1 : w4.cell? ⟨p, 1, none⟩ = some (.int .i64 (k : Int)) := Blk.cell hP2 1
        have f1 := Blk.frozen hP2 1
        have hP3 : Prs (w4.setCell ⟨p, 1, none⟩ (.int .i64 ((k : Int) + 1))) p s (k + 1) := Blk.set hP2 1 (.int .i64 ((k : Int) + 1))
        have hk4 : Kp (fun z => z = p) wO (w4.setCell ⟨p, 1, none⟩ (.int .i64 ((k : Int) + 1))) := (Kp.of_below hb4).set p 1 _ (fun _ => rfl)
        go_upto_region 6 with fail
        generalize w4.setCell ⟨p, 1, none⟩ (.int .i64 ((k : Int) + 1)) = w5 at *
        have hXp : X ≠ p := by omega
        have XX := Lib.hid (fun W' (hkk : Kp (fun z => z = p) w5 W') => qX.kp (hk4.trans hkk) hXp)
        have hT5 : Tab w5 := hT.kp (hk.trans hk4) (fun e => hp0 e.symm)
        have BR := Lib.hid (HB (k + 1) (by omega) hk1s w5.drew hP3 hT5)
        have x5 : w5.cell? ⟨X, 0, none⟩ = some (.slice rA n rc) := (XX.out w5 (Kp.refl _ _)).cell 0
        clear x0 y1 f1 hP2 qX2 hb4
        have hO5 : wO.heap.size ≤ w5.heap.size := hk4.size
        have hnw : (n + 1) * 16 ≤ 140737488355328 := by omega
        have hwO : w.heap.size ≤ wO.heap.size := hk.size
        have KD := Lib.hid (fun (W' : World) (h : Kp (fun z => z = p) w5.drew W') => (show Kp (fun z => z = p) w5 W' from ⟨h.os, h.tape, h.output, h.size, h.block⟩))
        go_region_law (first
          | ((fail_if_success (have := HK6)); (try go_simp); go_at_call 52; refine (BR.out).mono ?_; rintro e w6 ⟨hk6, r, hg, hm⟩; have HG := Lib.hid hg; clear hg; rcases r with ⟨t2, j2⟩ | ⟨pl⟩; rotate_left; focus (simp only at hm; subst hm; unfold Fault; go_wp2; exact ⟨rfl, (hk.trans hk4).trans (KD.out w6 hk6), _, REL.out _ (.exMoreBad HGO.out HG.out), rfl⟩)
             obtain ⟨v2, rfl, hj2, hP6, hTr6⟩ := hm
             obtain ⟨ty2, xv2, rfl⟩ := hTr6.isIface
             have HTr6 := Lib.hid hTr6
             clear hTr6
             have HK6 := Lib.hid (hk4.trans (KD.out w6 hk6))
             have hbA : Below w6.heap.size w6 (w6.alloc (.cells #[.iface ty2 xv2] 64)) := by go_grown
             have x6 : w6.cell? ⟨X, 0, none⟩ = some (.slice rA n rc) := (XX.out w6 (KD.out w6 hk6)).cell 0
             have x6a : (w6.alloc (.cells #[.iface ty2 xv2] 64)).cell? ⟨X, 0, none⟩ = some (.slice rA n rc) := ((XX.out w6 (KD.out w6 hk6)).below hbA).cell 0
             have hs6 : w.heap.size ≤ w6.heap.size := Nat.le_trans hwO HK6.out.size
             have oV6 := own_below (ownKp oV HK6.out (fun z e h => by have := (own_lt oV z e).1; omega)) hbA)
          | (refine appStep (w0 := w6) w.heap.size rfl _ _ 119 64 .nilIface 1 16 rfl Tryd.underlying119 info64 rfl (by decide) (by decide) (.slice rA n rc) n vs w6.heap.size #[.iface ty2 xv2] rfl rfl rfl (by simp [Value.oneCell']) (Blk.new w6 _ 64) oV6 ((Below.refl w.heap.size w6).alloc hs6 _) (by simp; omega) hnw ?_
             intro g9 cap9 w9 os9 hb9 hg9 hat9
             have N9 := Lib.hid (fk_next (w := w) (wO := wO) (w2 := w5) (wE := w6.alloc (.cells #[.iface ty2 xv2] 64)) hpw hXa hk (HK6.out.below hbA) hO5 qX oV RT.out (HTr6.out.kp (P2 := fun b => w5.heap.size ≤ b) (.of_below (S := fun _ => False) hbA) (fun _ _ _ h => h) (fun _ _ h => h)) (show Prs (w6.alloc (.cells #[.iface ty2 xv2] 64)) p s j2 from Blk.below hP6 hbA) os9 hg9 (hat9.imp (fun h => h) (fun h => by rw [h]; exact Nat.le_refl _)))
             have x9 := N9.out.2.2.2.2.2.1
             have f9 := N9.out.2.2.2.2.2.2))
        all_goals
          go_wp2
          go_roundw
          case rel => exact ⟨j2, n + 1, _, _, _, by have := (Gr_le HG.out _ _ rfl).1; simp only [Ph.start] at this; omega, hj2, by have := (Gr_le HG.out _ _ rfl).1; simp only [Ph.start] at this; omega, N9.out.1, N9.out.2.1, N9.out.2.2.1, N9.out.2.2.2.1, N9.out.2.2.2.2.1, fun r h => REL.out r (.exMore HGO.out HG.out h)⟩
          case measure =>
            have hat : atOf p _ = j2 := Prs.at N9.out.1
            rw [hat, HM.out]
            have := (Gr_le HG.out _ _ rfl).1
            simp only [Ph.start] at this
            omega
      · have R1 := Lib.hid (REL.out _ (.exEnd hgo))
        have FIN := Lib.hid (And.intro hP2 (And.intro (Tr.fork (P := fun b => w.heap.size ≤ b) (A := rA) (c := rc) (n := n) hvn ((own_rp (own_below oV hb4) (fun b => w.heap.size ≤ b) (fun b h => (own_lt oV b h).1))) (RT.out.kp (.of_below (S := fun _ => False) hb4) (fun _ _ _ h => h) (fun b _ h => h.1))) (hk.below hb4)))
        by_cases hks2 : k < s.size
        · rw [if_pos hks2, decide_eq_true hks2]
          have hn : bt s k ≠ 124 := fun h => hgo ⟨hks2, h⟩
          generalize bt s k = b at *
          have hbn : ((b : Int) == 124) = false := ne_lit hn
          clear hgo
          go_wp2
          go_returns
          exact ⟨FIN.out.2.2, _, R1.out, _, rfl, hks, FIN.out.1, FIN.out.2.1⟩
        · rw [if_neg hks2, decide_eq_false hks2]
          clear hgo
          go_wp2
          go_returns
          exact ⟨FIN.out.2.2, _, R1.out, _, rfl, hks, FIN.out.1, FIN.out.2.1⟩
end Go.Proofs.YtlocogccjlecjaaDoor
