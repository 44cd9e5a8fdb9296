import Derived.Test.YtcambbnmeiolgaaWaiP
import Derived.Test.YtcambbnmeiolgaaPcs
import Derived.BigQuiet
import Derived.Deep.QuietTactic
namespace Go.Proofs.Ytcambbnmeiolgaa
open Go.RowKit

/-- a stream's cells -/
abbrev SC (wv sv : Value) (T : ByteArray) (ov : Value) (e : Bool) : Array Value := #[wv, sv, .string T, ov, .bool e]
theorem strs_cell {w : World} {b o : Nat} {sts : List ByteArray} (h : Rd w (some ⟨b, o, none⟩) (sts.map Value.string)) (k : Nat) (hk : k < sts.length) : w.cell? ⟨b, o + k, none⟩ = some (.string sts[k]) := by
  rcases h with h | ⟨b', o', e, h⟩
  · have := List.map_eq_nil_iff.1 h
    rw [this] at hk
    simp at hk
  · injection e with e
    injection e with e1 e2
    subst e1 e2
    rw [h k (by simpa using hk)]
    simp [hk]

set_option maxRecDepth 100000 in
set_option maxHeartbeats 2000000 in
/-- waits -/
theorem waits_any (p n c : Nat) (A : Option Addr) (wv ov : Value) (T : ByteArray) (e : Bool) (sts : List ByteArray) (w : World) (hb0 : Blk w p (SC wv (.slice A n c) T ov e) 85) (hn : sts.length = n) (h4 : n ≤ 4) (hs : ∀ s ∈ sts, 1 ≤ s.size ∧ s.size ≤ 16) (hr : Rd w A (sts.map Value.string)) (hT : T.size ≤ 100000) :
    Calls Try.prog 59 #[.pointer (some ⟨p, 0, none⟩)] w fun e w' => e = .returned (.int .i64 (waitsL (sts.map lst) (lst T) : Int)) ∧ Below w.heap.size w w' := by
  have x1 : w.cell? ⟨p, 1, none⟩ = some (.slice A n c) := hb0.cell _
  have x2 : w.cell? ⟨p, 2, none⟩ = some (.string T) := hb0.cell _
  have a1 : (⟨p, 0, none⟩ : Addr).add 1 = ⟨p, 1, none⟩ := by simpa using addr_add p 0 1
  have a2 : (⟨p, 0, none⟩ : Addr).add 2 = ⟨p, 2, none⟩ := by simpa using addr_add p 0 2
  go_enter Try.func59, Try.ntmps59
  go_wp2
  clear x1 x2
  go_loopw [3, 5, 6, 14] (fun h _ _ i wr => ∃ k : Nat, k ≤ n ∧ i = .int .i64 (k : Int) ∧ h = .int .i64 (holdL ((sts.take k).map lst) (lst T) : Int) ∧ Below w.heap.size w wr) (fun _ _ _ i _ => n - (intOf i).toNat)
  case atStart => exact ⟨0, by omega, rfl, rfl, Below.refl _ _⟩
  case round =>
    obtain ⟨k, hk, rfl, rfl, hb⟩ := hrel
    have b1 := hb0.below hb
    have x2 : wr.cell? ⟨p, 2, none⟩ = some (.string T) := b1.cell _
    by_cases hlt : k < n
    · have g1 : (k : Int) < (n : Int) := by omega
      obtain ⟨b, o, rfl, y0⟩ := (hr.below hb).at k (by rw [List.length_map]; omega)
      rw [List.getElem_map] at y0
      have hs1 := hs sts[k] (List.getElem_mem _)
      have ea := addr_add b o k
      have HS := Lib.hid (show holdL ((sts.take (k + 1)).map lst) (lst T) = hold1 (lst T) (lst sts[k]) (holdL ((sts.take k).map lst) (lst T)) (min (sts[k].size - 1) T.size) by
        rw [List.take_succ_eq_append_getElem (by omega), List.map_append, List.map_cons, List.map_nil, holdL_snoc, lst_length, lst_length])
      have hle := holdL_le (lst T) ((sts.take k).map lst)
      rw [lst_length] at hle
      generalize holdL ((sts.take k).map lst) (lst T) = h0 at *
      generalize sts[k] = st at *
      have hw1 : IntKind.i64.wrap ((st.size : Int) - 1) = (st.size : Int) - 1 := IntWalk.i64_in _ (by omega)
      go_wp2
      clear x2 y0 ea b1
      obtain ⟨K0, hK0⟩ : ∃ K0, K0 = min (st.size - 1) T.size := ⟨_, rfl⟩
      have k16 : K0 ≤ 15 := by omega
      rw [← hK0] at HS
      have K1 := Lib.hid (show min ((st.size : Int) - 1) (T.size : Int) = (K0 : Int) by omega)
      have ksz : K0 < st.size := by omega
      clear hK0
      go_loopw [3, 6] (fun h i wr => ∃ hh j : Nat, h = .int .i64 (hh : Int) ∧ i = .int .i64 (j : Int) ∧ j ≤ K0 ∧ hh ≤ 100015 ∧ ((hh = h0 ∧ hold1 (lst T) (lst st) h0 K0 = hold1 (lst T) (lst st) h0 j) ∨ (j < hh ∧ hold1 (lst T) (lst st) h0 K0 = hh)) ∧ Below w.heap.size w wr) (fun _ i _ => (intOf i).toNat)
      case atStart => exact ⟨h0, K0, rfl, by rw [K1.out], by omega, by omega, .inl ⟨rfl, rfl⟩, hb⟩
      case round =>
        clear hb
        obtain ⟨hh, j, rfl, rfl, hj, hh5, hc, hb⟩ := hrel
        have HC := Lib.hid hc
        clear hc
        have b1 := hb0.below hb
        have x2 : wr.cell? ⟨p, 2, none⟩ = some (.string T) := b1.cell _
        by_cases hlj : hh < j
        · have g2 : (hh : Int) < (j : Int) := by omega
          obtain ⟨e1, e2⟩ : hh = h0 ∧ hold1 (lst T) (lst st) h0 K0 = hold1 (lst T) (lst st) h0 j := by
            rcases HC.out with h | h
            · exact h
            · omega
          subst e1
          have E2 := Lib.hid e2
          have j1 : (j : Int) ≤ (st.size : Int) := by omega
          have ju : j ≤ st.size := by omega
          have jp : 0 < j := by omega
          have hsf := Go.Proofs.Try.strings_HasSuffix T (st.extract 0 j)
          have hl : Lib.hasSuffix T.data.toList (st.extract 0 j).data.toList = sfx (lst T) ((lst st).take j) := by rw [← lst_take]; rfl
          rw [hl] at hsf
          have HF := Lib.hid hsf
          clear e2 hsf hl
          cases hx : sfx (lst T) ((lst st).take j) with
          | true =>
            have H1 := Lib.hid (E2.out.trans (hold1_yes hlj hx))
            rw [hx] at HF
            clear hx
            have hw2 : IntKind.i64.wrap ((j : Int) - 1) = (j : Int) - 1 := IntWalk.i64_in _ (by omega)
            go_wp2
            go_quiet ((go_at_call 65; exact Calls.quiet_of_same (HF.out _ (by omega))))
            all_goals go_wp2
            go_roundw
            case rel => exact ⟨j, j - 1, rfl, by go_num, by omega, by omega, .inr ⟨by omega, H1.out⟩, bdraw hb _⟩
            case measure => simp [intOf]; omega
          | false =>
            have H1 := Lib.hid (E2.out.trans (hold1_no hlj hx))
            rw [hx] at HF
            clear hx
            have hw2 : IntKind.i64.wrap ((j : Int) - 1) = (j : Int) - 1 := IntWalk.i64_in _ (by omega)
            go_wp2
            go_quiet ((go_at_call 65; exact Calls.quiet_of_same (HF.out _ (by omega))))
            all_goals go_wp2
            go_roundw
            case rel => exact ⟨hh, j - 1, rfl, by go_num, by omega, by omega, .inl ⟨rfl, H1.out⟩, bdraw hb _⟩
            case measure => simp [intOf]; omega
        · have g2 : ¬ (hh : Int) < (j : Int) := by omega
          have H1 := Lib.hid (show hold1 (lst T) (lst st) h0 K0 = hh by
            rcases HC.out with ⟨h1, h2⟩ | ⟨h1, h2⟩
            · rw [h2, hold1_done (by omega), h1]
            · exact h2)
          go_wp2
          go_roundw
          case rel => exact ⟨k + 1, by omega, by go_num, by rw [HS.out, H1.out], hb⟩
          case measure => simp [intOf]; omega
    · obtain rfl : k = n := by omega
      have hL : sts.take k = sts := List.take_of_length_le (by omega)
      rw [hL]
      have hle := holdL_le (lst T) (sts.map lst)
      rw [lst_length] at hle
      have WL := Lib.hid (show waitsL (sts.map lst) (lst T) = holdL (sts.map lst) (lst T) + tailR ((lst T).take (T.size - holdL (sts.map lst) (lst T))) (min 3 (T.size - holdL (sts.map lst) (lst T))) by rw [← lst_length T]; rfl)
      clear hL
      generalize holdL (sts.map lst) (lst T) = H at *
      obtain ⟨q, hq⟩ : ∃ q, q = T.size - H := ⟨_, rfl⟩
      have hw1 : IntKind.i64.wrap ((T.size : Int) - (H : Int)) = (q : Int) := by rw [IntWalk.i64_in _ (by omega)]; omega
      have q1 : (q : Int) ≤ (T.size : Int) := by omega
      have q2 : q ≤ T.size := by omega
      rw [← hq] at WL
      rw [← lst_take] at WL
      have AS : (T.extract 0 q).size = q := by rw [← lst_length, lst_take, List.length_take, lst_length]; omega
      have q3 : q ≤ 100000 := by omega
      have H3 : H ≤ 100000 := by omega
      clear hq
      go_wp2
      go_quiet (fail)
      all_goals skip
      generalize T.extract 0 q = ah at *
      clear x2 b1
      go_wp2
      have hb2 : Below w.heap.size w (wr.drewN nq) := bdraw hb nq
      clear hb
      generalize wr.drewN nq = w2 at *
      clear wr
      obtain ⟨r0, hr0⟩ : ∃ r0, r0 = min 3 q := ⟨_, rfl⟩
      have R1 := Lib.hid (show min (3 : Int) (q : Int) = (r0 : Int) by omega)
      have r3 : r0 ≤ 3 := by omega
      have rq : r0 ≤ q := by omega
      rw [← hr0] at WL
      clear hr0
      go_loopw [8] (fun i wr => ∃ r : Nat, r ≤ r0 ∧ i = .int .i64 (r : Int) ∧ tailR (lst ah) r0 = tailR (lst ah) r ∧ Below w.heap.size w wr) (fun i _ => (intOf i).toNat)
      case atStart => exact ⟨r0, by omega, by rw [R1.out], rfl, hb2⟩
      case round =>
        clear hb2
        obtain ⟨r, hr, rfl, ht, hb⟩ := hrel
        have TR := Lib.hid ht
        clear ht
        by_cases hlr : 0 < r
        · have g2 : (0 : Int) < (r : Int) := by omega
          have hw2 : IntKind.i64.wrap ((q : Int) - (r : Int)) = ((q - r : Nat) : Int) := by rw [IntWalk.i64_in _ (by omega)]; omega
          have q4 : ((q - r : Nat) : Int) ≤ (q : Int) := by omega
          have q5 : q - r ≤ q := by omega
          have ex : ah.extract (q - r) q = ah.extract (q - r) ah.size := by rw [AS]
          have BL := Lib.hid (show begB (ah.extract (q - r) q) = begL ((lst ah).drop ((lst ah).length - r)) by rw [ex, ← begL_lst, lst_drop, lst_length, AS])
          have es : (ah.extract (q - r) q).size = r := by rw [ex, ← lst_length, lst_drop, List.length_drop, lst_length, AS]; omega
          have cb := fun W => begins_any (ah.extract (q - r) q) W (by omega) (by omega)
          rw [BL.out] at cb
          have CB := Lib.hid cb
          clear es ex cb BL
          cases hx : begL ((lst ah).drop ((lst ah).length - r)) with
          | true =>
            rw [hx] at CB
            have H0 := Lib.hid (show waitsL (sts.map lst) (lst T) = H + r by rw [WL.out, TR.out, tailR_yes hlr hx])
            clear hx
            go_wp2_with fail
            refine (CB.out _).mono ?_
            rintro e w3 ⟨rfl, hb3⟩
            replace hb := bthen hb hb3
            go_wp2
            go_returns
            exact ⟨by rw [H0.out, Int.natCast_add]; rfl, hb⟩
          | false =>
            rw [hx] at CB
            have H0 := Lib.hid (TR.out.trans (tailR_no hlr hx))
            clear hx
            go_wp2_with fail
            refine (CB.out _).mono ?_
            rintro e w3 ⟨rfl, hb3⟩
            replace hb := bthen hb hb3
            have hw4 : IntKind.i64.wrap ((r : Int) - 1) = (r : Int) - 1 := IntWalk.i64_in _ (by omega)
            go_wp2
            go_roundw
            case rel => exact ⟨r - 1, by omega, by go_num, H0.out, hb⟩
            case measure => simp [intOf]; omega
        · obtain rfl : r = 0 := by omega
          have H0 := Lib.hid (show waitsL (sts.map lst) (lst T) = H by rw [WL.out, TR.out]; rfl)
          go_wp2
          go_returns
          exact ⟨by rw [H0.out]; rfl, hb⟩
end Go.Proofs.Ytcambbnmeiolgaa
