import Derived.Test.YtcambbnmeiolgaaFed
namespace Go.Proofs.Ytcambbnmeiolgaa
open Go.RowKit

/-- are these tokens of a vocabulary of so many? -/
def okTs (n : Nat) (l : List Int) : Prop := ∀ x ∈ l, 0 ≤ x ∧ x < (n : Int)
/-- Feed, of tokens of the vocabulary -/
def FeedOut (w : World) (p : Nat) (wds : List (List Int)) (sts : List ByteArray) (s : S3) (en : Ending) (w' : World) : Prop :=
  ∃ u, en = .returned (.tuple #[u, .int .i64 0]) ∧ w'.ownsRow w.heap.size 5 1 u s.2.1.length (B8 s.2.1) ∧ Strm w' p wds sts s.1 s.2.2 ∧ w.grownBy w' (some p)
theorem i64_len {w : World} {A : Option Addr} {l : List Int} (h : Rd w A (I64 l)) (k : Nat) (hk : k < l.length) : ∃ b o, A = some ⟨b, o, none⟩ ∧ w.cell? ⟨b, o + k, none⟩ = some (.int .i64 l[k]) := h.i64 k hk

set_option maxRecDepth 100000 in
set_option maxHeartbeats 2000000 in
/-- Feed -/
theorem feed_any (A : Option Addr) (n c : Nat) (l : List Int) (w : World) (p : Nat) (wds : List (List Int)) (sts : List ByteArray) (t : List UInt8) (e : Bool) (h : Strm w p wds sts t e) (ht : t.length ≤ 18) (hl : l.length = n) (hn : n ≤ 1099511627776) (hx : Rd w A (I64 l)) (hA : ∀ b o, A = some ⟨b, o, none⟩ → 0 < n → b ≠ p) (hok : okTs wds.length l) :
    Calls Try.prog 18 #[.pointer (some ⟨p, 0, none⟩), .slice A n c] w (FeedOut w p wds sts (feedU (sts.map lst) wds (t, [], e) l)) := by
  obtain ⟨wv, sv, T, hS, hb0, hT⟩ := h
  obtain ⟨vals, hwo, _⟩ := hS.wo
  obtain ⟨wA, wc, rfl, _, _⟩ := own_rd hwo
  have hw64 := hS.w64
  have a0 : (⟨p, 0, none⟩ : Addr).add 0 = ⟨p, 0, none⟩ := by simpa using addr_add p 0 0
  have a4 : (⟨p, 0, none⟩ : Addr).add 4 = ⟨p, 4, none⟩ := by simpa using addr_add p 0 4
  have x0 : w.cell? ⟨p, 0, none⟩ = some (.slice wA wds.length wc) := hb0.cell _
  have HST := Lib.hid (show Str w w p (.slice wA wds.length wc) sv t [] e from ⟨_, T, hT, hb0, World.ownsRow_nil _ _ _ _, World.grownBy.refl w _⟩)
  have HS := Lib.hid hS
  have OK := Lib.hid hok
  have HX := Lib.hid hx
  have HA := Lib.hid hA
  have HL := Lib.hid hl
  clear hS hok hx hA hb0 hwo hT hl
  go_enter Try.func18, Try.ntmps18
  go_wp2
  go_loop [7, 14] (fun _ i => ∃ k : Nat, k ≤ n ∧ i = .int .i64 (k : Int)) (fun _ i => n - (intOf i).toNat)
  case atStart => exact ⟨0, by omega, rfl⟩
  case round =>
    obtain ⟨k, hk, rfl⟩ := hrel
    by_cases hlt : k < n
    · obtain ⟨b, of, rfl, y0⟩ := HX.out.i64 k (by rw [HL.out]; exact hlt)
      have ea := addr_add b of k
      have hv := OK.out (l[k]'(by rw [HL.out]; exact hlt)) (List.getElem_mem _)
      have hkn : (k : Int) < (n : Int) := by omega
      generalize l[k]'(by rw [HL.out]; exact hlt) = v at *
      obtain ⟨v1, v2⟩ := hv
      have d1 : decide (v < 0) = false := decide_eq_false (by omega)
      have d2 : decide ((wds.length : Int) ≤ v) = false := decide_eq_false (by omega)
      go_wp2
      go_round
      case rel => exact ⟨k + 1, by omega, by go_num⟩
      case measure => simp [intOf]; omega
    · obtain rfl : k = n := by omega
      clear x0
      go_wp2
      go_loopw [9, 32] (fun _ i wr => ∃ j : Nat, j ≤ k ∧ i = .int .i64 (j : Int) ∧ Str w wr p (.slice wA wds.length wc) sv (feedU (sts.map lst) wds (t, [], e) (l.take j)).1 (feedU (sts.map lst) wds (t, [], e) (l.take j)).2.1 (feedU (sts.map lst) wds (t, [], e) (l.take j)).2.2) (fun _ i _ => k - (intOf i).toNat)
      case atStart => exact ⟨0, by omega, rfl, HST.out⟩
      case round =>
        obtain ⟨j, hj, rfl, hst⟩ := hrel
        have fin : ∀ (s : S3) (wz : World), feedU (sts.map lst) wds (t, [], e) l = s → Str w wz p (.slice wA wds.length wc) sv s.1 s.2.1 s.2.2 → Calls Try.prog 47 #[.pointer (some ⟨p, 0, none⟩)] wz fun en w' => ∃ u, en = .returned u ∧ FeedOut w p wds sts (feedU (sts.map lst) wds (t, [], e) l) (.returned (.tuple #[u, .int .i64 0])) w' := fun s wz hs h => by
          refine (taken_any w wz p _ sv s.1 s.2.1 s.2.2 h).mono ?_
          rintro en w' ⟨u, T', rfl, ou, hT', hb2, hg⟩
          rw [hs]
          exact ⟨u, rfl, u, rfl, ou, ⟨_, sv, T', HS.out.kept hg, hb2, hT'⟩, hg⟩
        have FIN := Lib.hid fin
        clear fin
        by_cases hlt : j < k
        · have g1 : (j : Int) < (k : Int) := by omega
          obtain ⟨b, of, rfl, y0⟩ := HX.out.i64 j (by rw [HL.out]; exact hlt)
          have hbp := HA.out b of rfl (by omega)
          have hg0 : w.grownBy wr (some p) := by obtain ⟨_, _, _, _, _, h⟩ := hst; exact h
          have y1 : wr.cell? ⟨b, of + j, none⟩ = _ := (World.cell?_of_block (hg0.block b (World.block_lt_of_cell? w _ y0) (fun he => hbp (by injection he)))).trans y0
          have ea := addr_add b of j
          have hv := OK.out (l[j]'(by rw [HL.out]; exact hlt)) (List.getElem_mem _)
          have NX := Lib.hid (show feedU (sts.map lst) wds (t, [], e) (l.take (j + 1)) = tokU (sts.map lst) wds (feedU (sts.map lst) wds (t, [], e) (l.take j)) (l[j]'(by rw [HL.out]; exact hlt)).toNat by rw [List.take_succ_eq_append_getElem (by rw [HL.out]; exact hlt), feedU_snoc])
          have hlen := feedU_len (sts.map lst) wds HS.out.lens (fun x hx => (HS.out.w16 x hx).1) (l.take j) (t, [], e) ht
          have AL := Lib.hid (show (feedU (sts.map lst) wds (t, [], e) (l.take j)).2.2 = true → feedU (sts.map lst) wds (t, [], e) l = feedU (sts.map lst) wds (t, [], e) (l.take j) from fun h => by
            conv => lhs; rw [← List.take_append_drop j l, feedU_append]
            exact feedU_over _ _ _ _ h)
          have hlen2 : (feedU (sts.map lst) wds (t, [], e) (l.take j)).2.1.length ≤ 70368744177664 := by
            have := hlen.2
            simp only [List.length_take, List.length_nil] at this
            omega
          have hlen1 := hlen.1
          clear y0 hlen hg0
          generalize feedU (sts.map lst) wds (t, [], e) (l.take j) = S at *
          generalize l[j]'(by rw [HL.out]; exact hlt) = v at *
          obtain ⟨v1, v2⟩ := hv
          obtain ⟨vn, rfl⟩ : ∃ vn : Nat, v = (vn : Int) := ⟨v.toNat, by omega⟩
          rw [Int.toNat_natCast] at NX
          have x4 : wr.cell? ⟨p, 4, none⟩ = some (.bool S.2.2) := by obtain ⟨_, _, _, h, _⟩ := hst; exact h.cell _
          have HST2 := Lib.hid hst
          clear hst
          cases he : S.2.2 with
          | true =>
            rw [he] at x4
            have AL2 := Lib.hid (AL.out he)
            clear he
            go_wp2_with fail
            refine (FIN.out S wr AL2.out HST2.out).mono ?_
            rintro en w2 ⟨u, rfl, fo⟩
            have FO := Lib.hid fo
            clear fo
            go_wp2
            go_returns
            exact FO.out
          | false =>
            have hst := HST2.out
            rw [he] at hst x4
            have hse : S = (S.1, S.2.1, false) := by rw [← he]
            have SE := Lib.hid hse
            clear he hse
            go_wp2_with fail
            refine (token_any p _ sv wds sts S.1 S.2.1 vn w wr HS.out hst (by omega) hlen1 hlen2).mono ?_
            rintro en w2 ⟨rfl, h2⟩
            rw [← SE.out] at h2
            have H2 := Lib.hid h2
            clear h2 hst x4
            go_wp2
            go_roundw
            case rel => exact ⟨j + 1, by omega, by go_num, by rw [NX.out]; exact H2.out⟩
            case measure => simp [intOf]; omega
        · obtain rfl : j = k := by omega
          have hF : l.take j = l := List.take_of_length_le (by rw [HL.out]; omega)
          rw [hF] at hst
          clear hF
          go_wp2_with fail
          refine (FIN.out _ wr rfl hst).mono ?_
          rintro en w2 ⟨u, rfl, fo⟩
          have FO := Lib.hid fo
          clear fo hst
          go_wp2
          go_returns
          exact FO.out
end Go.Proofs.Ytcambbnmeiolgaa
