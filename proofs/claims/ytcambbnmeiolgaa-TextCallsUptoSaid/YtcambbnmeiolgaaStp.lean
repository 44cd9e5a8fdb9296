import Derived.Test.YtcambbnmeiolgaaGiv
namespace Go.Proofs.Ytcambbnmeiolgaa
open Go.RowKit

/-- a stream's own cells, and what it can give out, in memory that is new since w0 -/
def Str (w0 w : World) (p : Nat) (wv sv : Value) (t : List UInt8) (o : List Int) (e : Bool) : Prop :=
  ∃ ov T, lst T = t ∧ Blk w p (SC wv sv T ov e) 85 ∧ w.ownsRow w0.heap.size 5 1 ov o.length (B8 o) ∧ w0.grownBy w (some p)
theorem Str.below {w0 w w' : World} {p : Nat} {wv sv : Value} {t : List UInt8} {o : List Int} {e : Bool} (h : Str w0 w p wv sv t o e) (hb : Below w.heap.size w w') : Str w0 w' p wv sv t o e := by
  obtain ⟨ov, T, h1, h2, h3, h4⟩ := h
  exact ⟨ov, T, h1, h2.below hb, own_below h3 hb, grown_below h4 hb⟩
/-- what stopped leaves -/
def StopOut (w0 : World) (p : Nat) (wv sv : Value) (sts : List (List UInt8)) (t : List UInt8) (o : List Int) (en : Ending) (w' : World) : Prop :=
  (0 < longest sts t ∧ en = .returned (.bool true) ∧ Str w0 w' p wv sv (t.drop (t.length - longest sts t)) (o ++ bI (t.take (t.length - longest sts t))) true) ∨
  (longest sts t = 0 ∧ en = .returned (.bool false) ∧ Str w0 w' p wv sv t o false)

set_option maxRecDepth 100000 in
set_option maxHeartbeats 2000000 in
/-- stopped -/
theorem stopped_any (p n c : Nat) (A : Option Addr) (wv ov : Value) (T : ByteArray) (o : List Int) (sts : List ByteArray) (w0 w : World) (hb0 : Blk w p (SC wv (.slice A n c) T ov false) 85) (ho : w.ownsRow w0.heap.size 5 1 ov o.length (B8 o)) (hg : w0.grownBy w (some p))
    (hn : sts.length = n) (hr : Rd w A (sts.map Value.string)) (hs : ∀ s ∈ sts, s.size ≤ 16) (hn4 : n ≤ 4) (hT : T.size ≤ 100000) (hle : o.length + T.size ≤ 140737488355328) :
    Calls Try.prog 58 #[.pointer (some ⟨p, 0, none⟩)] w (StopOut w0 p wv (.slice A n c) (sts.map lst) (lst T) o) := by
  have x1 : w.cell? ⟨p, 1, none⟩ = some (.slice A n c) := hb0.cell _
  have a1 : (⟨p, 0, none⟩ : Addr).add 1 = ⟨p, 1, none⟩ := by simpa using addr_add p 0 1
  have a2 : (⟨p, 0, none⟩ : Addr).add 2 = ⟨p, 2, none⟩ := by simpa using addr_add p 0 2
  have a4 : (⟨p, 0, none⟩ : Addr).add 4 = ⟨p, 4, none⟩ := by simpa using addr_add p 0 4
  have HT := Lib.hid (lst_length T)
  go_enter Try.func58, Try.ntmps58
  go_wp2
  clear x1
  go_loopw [3, 5, 11] (fun g _ i wr => ∃ k : Nat, k ≤ n ∧ i = .int .i64 (k : Int) ∧ g = .int .i64 (longest ((sts.take k).map lst) (lst T) : Int) ∧ Below w.heap.size w wr) (fun _ _ i _ => n - (intOf i).toNat)
  case atStart => exact ⟨0, by omega, rfl, rfl, Below.refl _ _⟩
  case round =>
    obtain ⟨k, hk, rfl, rfl, hb⟩ := hrel
    have b1 := hb0.below hb
    by_cases hlt : k < n
    · have g1 : (k : Int) < (n : Int) := by omega
      have x2 : wr.cell? ⟨p, 2, none⟩ = some (.string T) := b1.cell _
      obtain ⟨b, of, rfl, y0⟩ := (hr.below hb).at k (by rw [List.length_map]; omega)
      rw [List.getElem_map] at y0
      have hs1 := hs sts[k] (List.getElem_mem _)
      have ea := addr_add b of k
      have LS := Lib.hid (show longest ((sts.take (k + 1)).map lst) (lst T) = if sfx (lst T) (lst sts[k]) then max (longest ((sts.take k).map lst) (lst T)) sts[k].size else longest ((sts.take k).map lst) (lst T) by
        rw [List.take_succ_eq_append_getElem (by omega), List.map_append, List.map_cons, List.map_nil, longest_snoc, lst_length])
      have hle1 := longest_le (lst T) ((sts.take k).map lst)
      rw [HT.out] at hle1
      generalize longest ((sts.take k).map lst) (lst T) = g at *
      generalize sts[k] = st at *
      have HF := Lib.hid (show ∀ W, Calls Try.prog 65 #[.string T, .string st] W fun e w' => e = .returned (.bool (sfx (lst T) (lst st))) ∧ w' = W from fun W => Go.Proofs.Try.strings_HasSuffix T st W (by omega))
      go_wp2_with fail
      refine (HF.out _).mono ?_
      rintro e w2 ⟨rfl, rfl⟩
      cases hx : sfx (lst T) (lst st) with
      | true =>
        have H0 := Lib.hid (show longest ((sts.take (k + 1)).map lst) (lst T) = max g st.size by rw [LS.out, hx]; rfl)
        clear hx
        go_wp2
        go_roundw
        case rel => exact ⟨k + 1, by omega, by go_num, by rw [H0.out]; congr 1; omega, hb⟩
        case measure => simp [intOf]; omega
      | false =>
        have H0 := Lib.hid (show longest ((sts.take (k + 1)).map lst) (lst T) = g by rw [LS.out, hx]; rfl)
        clear hx
        go_wp2
        go_roundw
        case rel => exact ⟨k + 1, by omega, by go_num, by rw [H0.out], hb⟩
        case measure => simp [intOf]; omega
    · obtain rfl : k = n := by omega
      have hL : sts.take k = sts := List.take_of_length_le (by omega)
      rw [hL]
      have hle1 := longest_le (lst T) (sts.map lst)
      rw [HT.out] at hle1
      have G0 := Lib.hid (show longest (sts.map lst) (lst T) = longest (sts.map lst) (lst T) from rfl)
      generalize hgg : longest (sts.map lst) (lst T) = g at *
      have GG := Lib.hid hgg
      clear hL hgg G0
      by_cases hz : 0 < g
      · have g2 : (0 : Int) < (g : Int) := by omega
        have x2 : wr.cell? ⟨p, 2, none⟩ = some (.string T) := b1.cell _
        have hw1 : IntKind.i64.wrap ((T.size : Int) - (g : Int)) = ((T.size - g : Nat) : Int) := by rw [IntWalk.i64_in _ (by omega)]; omega
        have ho1 := own_below ho hb
        have hg1 := grown_below hg hb
        go_wp2_with fail
        refine (give_any p wv (.slice A k c) ov T false o (T.size - g) w0 wr b1 ho1 hg1 (by omega) hT hle).mono ?_
        rintro e w2 ⟨rfl, ov', T', hl, b2, o2, g3⟩
        have z4 := b2.frozen 4
        have y4 : w2.cell? ⟨p, 4, none⟩ = some (.bool false) := b2.cell _
        have b3 := b2.set 4 (.bool true)
        have SO : StopOut w0 p wv (.slice A k c) (sts.map lst) (lst T) o (.returned (.bool true)) (w2.setCell ⟨p, 4, none⟩ (.bool true)) := by
          refine .inl ⟨by rw [GG.out]; exact hz, rfl, ov', T', ?_, b3, ?_, grown_step g3 (grown_set _ _ _ _) (.inl rfl)⟩
          · rw [hl, HT.out, GG.out]
          · have := own_set_other o2 p 4 (.bool true) (b2.not_row (by decide) o2)
            rw [GG.out, HT.out]
            exact this
        have SOH := Lib.hid SO
        have y5 : (w2.setCell ⟨p, 4, none⟩ (.bool true)).cell? ⟨p, 4, none⟩ = some (.bool true) := b3.cell _
        clear SO b2 b3 o2 g3 hl x2 b1 ho1 hg1 hb hb0 ho hg
        go_wp2
        go_returns
        exact SOH.out
      · obtain rfl : g = 0 := by omega
        have y4 : wr.cell? ⟨p, 4, none⟩ = some (.bool false) := b1.cell _
        have SO := Lib.hid (show StopOut w0 p wv (.slice A k c) (sts.map lst) (lst T) o (.returned (.bool false)) wr from .inr ⟨GG.out, rfl, ov, T, rfl, b1, own_below ho hb, grown_below hg hb⟩)
        clear b1 ho hg hb hb0
        go_wp2
        go_returns
        exact SO.out
end Go.Proofs.Ytcambbnmeiolgaa
