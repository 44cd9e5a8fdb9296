import Derived.Test.YtobklhnechbpaaaEq51
namespace Go.Proofs.Ytobklhnechbpaaa
open Go.RowKit

/-- a vocabulary that is handed in: its slices, and what they read -/
structure Voc (w : World) (A A' : Option Addr) (n m : Nat) (bs : List Int) (ps : List (Int × Int)) : Prop where
  hn : bs.length = n
  hm : ps.length = m
  b1 : n * 1 ≤ 140737488355328
  b2 : m * 16 ≤ 140737488355328
  hx : Rd w A (B8 bs)
  hy : Rd w A' (PR ps)
theorem Voc.below {w w' : World} {A A' : Option Addr} {n m : Nat} {bs : List Int} {ps : List (Int × Int)} (h : Voc w A A' n m bs ps) (hb : Below w.heap.size w w') : Voc w' A A' n m bs ps :=
  ⟨h.hn, h.hm, h.b1, h.b2, h.hx.below hb, h.hy.below hb⟩
/-- two boxes of vocabularies, side by side -/
theorem two_boxes (w : World) (v u : Value) (v' u' : Value) : Blk ((w.alloc (.cells #[v, u] 25)).alloc (.cells #[v', u'] 25)) w.heap.size #[v, u] 25 ∧ Blk ((w.alloc (.cells #[v, u] 25)).alloc (.cells #[v', u'] 25)) (w.heap.size + 1) #[v', u'] 25 :=
  ⟨(Blk.new w _ _).alloc _, by have := Blk.new (w.alloc (.cells #[v, u] 25)) #[v', u'] 25; simpa using this⟩
theorem two_below (w : World) (v u : Value) (v' u' : Value) : Below w.heap.size w ((w.alloc (.cells #[v, u] 25)).alloc (.cells #[v', u'] 25)) := by go_grown

set_option maxRecDepth 100000 in
set_option maxHeartbeats 1000000 in
/-- EqVocab -/
theorem eqVocab_any (A A' C C' : Option Addr) (n m n' m' c c' d d' : Nat) (bs bs' : List Int) (ps ps' : List (Int × Int)) (w : World) (h : Voc w A A' n m bs ps) (h' : Voc w C C' n' m' bs' ps') :
    Calls Try.prog 36 #[.agg #[.slice A n c, .slice A' m c'], .agg #[.slice C n' d, .slice C' m' d']] w fun e w' => e = .returned (.bool (decide (bs = bs' ∧ ps = ps'))) ∧ Below w.heap.size w w' := by
  have hb0 := two_below w (.slice A n c) (.slice A' m c') (.slice C n' d) (.slice C' m' d')
  obtain ⟨q0, q1⟩ := two_boxes w (.slice A n c) (.slice A' m c') (.slice C n' d) (.slice C' m' d')
  have g := h.below hb0
  have g' := h'.below hb0
  obtain ⟨hn, hm, b1, b2, _, _⟩ := h
  obtain ⟨hn', hm', b1', b2', _, _⟩ := h'
  go_enter Try.func36, Try.ntmps36
  go_wp2_with fail
  refine (eqBytes_any A C n n' c d bs bs' hn hn' (by omega) _ g.hx g'.hx).mono ?_
  rintro e w1 ⟨he, hb⟩
  replace q0 := q0.below hb
  replace q1 := q1.below hb
  replace g := g.below hb
  replace g' := g'.below hb
  replace hb0 : Below w.heap.size w w1 := hb0.trans (hb.mono (by simp; omega))
  clear hb
  have c00 : w1.cell? ⟨w.heap.size, 0, none⟩ = some (.slice A n c) := q0.cell _
  have c01 : w1.cell? ⟨w.heap.size, 1, none⟩ = some (.slice A' m c') := q0.cell _
  have c10 : w1.cell? ⟨w.heap.size + 1, 0, none⟩ = some (.slice C n' d) := q1.cell _
  have c11 : w1.cell? ⟨w.heap.size + 1, 1, none⟩ = some (.slice C' m' d') := q1.cell _
  by_cases hbs : bs = bs'
  · have hd : decide (bs = bs') = true := by simpa using hbs
    rw [hd] at he
    subst he
    by_cases hmm : m = m'
    · subst hmm
      have HBS := Lib.hid hbs
      clear hd hbs
      go_wp2
      go_loopw [5] (fun i wr => ∃ k : Nat, k ≤ m ∧ i = .int .i64 k ∧ ps.take k = ps'.take k ∧ Below w1.heap.size w1 wr) (fun i _ => m - (intOf i).toNat)
      case atStart => exact ⟨0, by omega, rfl, rfl, Below.refl _ _⟩
      case round =>
        obtain ⟨k, hk, rfl, he, hb⟩ := hrel
        have hbw : Below w.heap.size w wr := bthen hb0 hb
        have d00 : wr.cell? ⟨w.heap.size, 0, none⟩ = some (.slice A n c) := (q0.below hb).cell _
        have d01 : wr.cell? ⟨w.heap.size, 1, none⟩ = some (.slice A' m c') := (q0.below hb).cell _
        have d10 : wr.cell? ⟨w.heap.size + 1, 0, none⟩ = some (.slice C n' d) := (q1.below hb).cell _
        have d11 : wr.cell? ⟨w.heap.size + 1, 1, none⟩ = some (.slice C' m d') := (q1.below hb).cell _
        have HE := Lib.hid he
        clear he c00 c01 c10 c11
        by_cases hlt : k < m
        · obtain ⟨b, o, rfl, x1, x2⟩ := (g.below hb).hy.pr k (by omega)
          obtain ⟨b', o', rfl, y1, y2⟩ := (g'.below hb).hy.pr k (by omega)
          have ea := addr_add b o (k * 2)
          have ea' := addr_add b' o' (k * 2)
          have T1 := Lib.hid (List.take_succ_eq_append_getElem (show k < ps.length by omega))
          have T2 := Lib.hid (List.take_succ_eq_append_getElem (show k < ps'.length by omega))
          generalize hxv : ps[k]'(by omega) = x at *
          generalize hyv : ps'[k]'(by omega) = y at *
          obtain ⟨xa, xb⟩ := x
          obtain ⟨ya, yb⟩ := y
          simp only at x1 x2 y1 y2
          have XV := Lib.hid hxv
          have YV := Lib.hid hyv
          clear hxv hyv
          have heq := eq51
          by_cases hv : xa = ya ∧ xb = yb
          · obtain ⟨rfl, rfl⟩ := hv
            go_wp2
            go_quiet (fail)
            all_goals go_wp2
            go_roundw
            case rel => exact ⟨k + 1, by omega, by go_num, by rw [T1.out, T2.out, HE.out], bdraw hb _⟩
            case measure => simp [intOf]; omega
          · have hne : (xa == ya && xb == yb) = false := by simpa using hv
            have hd : decide (bs = bs' ∧ ps = ps') = false := by
              simp only [decide_eq_false_iff_not]
              rintro ⟨_, rfl⟩
              have := XV.out.symm.trans YV.out
              simp only [Prod.mk.injEq] at this
              exact hv this
            have HD := Lib.hid hd
            clear hd hv
            go_wp2
            go_quiet (fail)
            all_goals go_wp2
            go_returns
            exact ⟨by rw [HD.out]; rfl, bthen hb0 (bdraw hb _)⟩
        · have hd : decide (bs = bs' ∧ ps = ps') = true := by
            simp only [decide_eq_true_eq]
            have he := HE.out
            rw [List.take_of_length_le (by omega), List.take_of_length_le (by omega)] at he
            exact ⟨HBS.out, he⟩
          have HD := Lib.hid hd
          clear hd
          go_wp2
          go_returns
          exact ⟨by rw [HD.out]; rfl, bthen hb0 hb⟩
    · have hd2 : decide (bs = bs' ∧ ps = ps') = false := by
        simp only [decide_eq_false_iff_not]
        rintro ⟨_, rfl⟩
        omega
      have HD := Lib.hid hd2
      have hne : ((m : Int) != (m' : Int)) = true := by simp; omega
      clear hd hd2 hbs
      go_wp2
      go_returns
      exact ⟨by rw [HD.out]; rfl, hb0⟩
  · have hd : decide (bs = bs') = false := by simpa using hbs
    have hd2 : decide (bs = bs' ∧ ps = ps') = false := by
      simp only [decide_eq_false_iff_not]
      exact fun h => hbs h.1
    rw [hd] at he
    subst he
    have HD := Lib.hid hd2
    clear hd hd2 hbs
    go_wp2
    go_returns
    exact ⟨by rw [HD.out]; rfl, hb0⟩
end Go.Proofs.Ytobklhnechbpaaa
